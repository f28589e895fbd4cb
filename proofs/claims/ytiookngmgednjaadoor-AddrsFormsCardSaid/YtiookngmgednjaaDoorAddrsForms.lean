/- Walk of the law AddrsForms: an address of four bytes, told by one to four numbers in any form. -/
import Derived.Test.YtiookngmgednjaaDoorAf0
import Derived.Test.YtiookngmgednjaaDoorRows
import Derived.Deep.Cut
import Derived.Deep.DeepCutAuto
import Derived.Deep.RegionHeld3
namespace Go.Proofs.YtiookngmgednjaaDoor
open Go.RowKit Go.Lib Go.Proofs.Foot

set_option maxHeartbeats 8000000 in
set_option maxRecDepth 100000 in
theorem addrsForms_at (n : Nat) (hn : n < 4294967296) (b0 b1 b2 b3 b4 : UInt8) (x0 x1 x2 x3 x4 : Value) (e0 : x0 = .int .u8 b0.toNat) (e1 : x1 = .int .u8 b1.toNat) (e2 : x2 = .int .u8 b2.toNat) (e3 : x3 = .int .u8 b3.toNat) (e4 : x4 = .int .u8 b4.toNat) (p : Bool) (w : World) (A0 : Amb w) :
    Calls Tryd.prog 7 #[.int .u32 n, .agg #[x0, x1, x2, x3, x4], .bool p] w fun e w' => e = .returned (.bool true) ∧ Below w.heap.size w w' := by
  obtain ⟨B, hB⟩ : ∃ B : List UInt8, B = [b0, b1, b2, b3, b4] := ⟨_, rfl⟩
  obtain ⟨f, hf⟩ : ∃ f : Nat → Nat, f = fun i => (B.getD i 0).toNat % 5 := ⟨_, rfl⟩
  obtain ⟨r, hr⟩ : ∃ r : Nat, r = b4.toNat % 4 := ⟨_, rfl⟩
  obtain ⟨a0, ha0⟩ : ∃ a : UInt8, a = UInt8.ofNat (n / 16777216) := ⟨_, rfl⟩
  obtain ⟨a1, ha1⟩ : ∃ a : UInt8, a = UInt8.ofNat (n / 65536) := ⟨_, rfl⟩
  obtain ⟨a2, ha2⟩ : ∃ a : UInt8, a = UInt8.ofNat (n / 256) := ⟨_, rfl⟩
  obtain ⟨a3, ha3⟩ : ∃ a : UInt8, a = UInt8.ofNat n := ⟨_, rfl⟩
  obtain ⟨C4, hC4⟩ : ∃ C4, C4 = adrC false (fourBytes n ++ noughts 12) := ⟨_, rfl⟩
  have HF : Hid (∀ S : ByteArray, S.data.toList = formText n f (r + 1) p → ∀ w, Amb w → Calls Tryd.prog 14 #[.string S] w fun e w' => e = .returned (.tuple #[.agg C4, .bool true, .int .i64 0]) ∧ Below w.heap.size w w') := hid (fun S hS w A => by
    have hz : S.size ≤ 16777216 := by
      rw [Lib.size_eq, hS, formText, List.length_append, ← tF_all n f (r + 1) (by omega) (by omega)]
      have h1 := tF_len n f (r + 1) (r + 1)
      have h2 : (if p = true then [46] else ([] : List UInt8)).length ≤ 1 := by split <;> simp
      omega
    rw [hC4]; exact fourA_lit S _ true 0 hz (by rw [hS]; exact four_forms n hn f (r + 1) (by omega) (by omega) p) w A)
  have hfour : Hid (∀ w, Calls Tryd.prog 18 #[.int .u8 a0.toNat, .int .u8 a1.toNat, .int .u8 a2.toNat, .int .u8 a3.toNat] w fun e w' => e = .returned (.agg C4) ∧ Below w.heap.size w w') := hid (by
    rw [hC4]; unfold fourBytes; rw [← ha0, ← ha1, ← ha2, ← ha3]; exact four_any a0 a1 a2 a3)
  have q4 : Hid (∀ V, (binOp .eql 24 (.agg C4) (.agg C4)).run Tryd.prog V = .ok (.bool true) V) := hid (by rw [hC4]; exact adr_eql false _ rfl)
  have y4 : Hid ((17 : Nat) = C4.size ∧ (Tryd.prog.info? 24).map (·.size) = some C4.size ∧ C4.all (·.oneCell') = true) := hid (by rw [hC4]; exact ⟨rfl, infoAdr _ rfl _, adr_one _ _⟩)
  have HD : Hid ((Tryd.prog.info? 38).map (·.size) = some (#[x0, x1, x2, x3, x4] : Array Value).size) := hid (by kernel_rfl)
  have G := hid A0
  have W0 := hid (Boxf.start w #[x0, x1, x2, x3, x4])
  obtain ⟨DD, hDD⟩ : ∃ DD : Array Value, DD = #[x0, x1, x2, x3, x4] := ⟨_, rfl⟩
  have HB := hid (show ∀ k < 5, DD[k]? = some (.int .u8 (B.getD k 0).toNat) from by
    intro k hk
    obtain rfl | rfl | rfl | rfl | rfl : k = 0 ∨ k = 1 ∨ k = 2 ∨ k = 3 ∨ k = 4 := by omega
    all_goals (rw [hDD, hB, e0, e1, e2, e3, e4]; rfl))
  have HDD := hid hDD
  have W1 := W0
  rw [← hDD] at W1
  have HJ := hid (fun h => tF_all n f (r + 1) (by omega) h)
  have hr3 : r ≤ 3 := by omega
  have Hf := hid hf
  have Hc := hid (And.intro ha0 (And.intro ha1 (And.intro ha2 ha3)))
  have t4 : (b4.toNat : Int).tmod 4 = (r : Int) := by rw [Int.tmod_eq_emod_of_nonneg (by omega)]; omega
  have u4 : (b4.toNat : Int) % 4 = (r : Int) := by omega
  have v4 : IntKind.u8.wrap (r : Int) = (r : Int) := IntWalk.u8_in _ (by omega)
  have v5 : IntKind.i64.wrap (r : Int) = (r : Int) := IntWalk.i64_in _ (by omega)
  have v6 : IntKind.i64.wrap ((r : Int) + 1) = (r : Int) + 1 := IntWalk.i64_in _ (by omega)
  have hd4 := hid (show DD[4]? = some (.int .u8 b4.toNat) by rw [HB.out 4 (by omega), hB]; rfl)
  clear hC4 A0 hB hDD W0 hf ha0 ha1 ha2 ha3 hr e0 e1 e2 e3 e4
  go_enter Tryd.func7, Tryd.ntmps7
  go_upto_region 1 with fail
  rw [← HDD.out]
  generalize w.alloc _ = w1 at *
  have c4 := W1.out.cell hd4.out
  go_upto_region 2 with fail
  clear c4 t4 u4 v4
  go_wp2
  go_loopw [8, 9] (fun sv iv wr => ∃ (i : Nat) (S : ByteArray), i ≤ r + 1 ∧ iv = .int .i64 i ∧ sv = .string S ∧ S.size ≤ 38 * i ∧ Hid (Boxf w [] w.heap.size DD wr ∧ S.data.toList = tF n f (r + 1) i)) (fun _ iv _ => r + 1 - (RowKit.intOf iv).toNat)
  case atStart => exact ⟨0, ⟨#[]⟩, Nat.zero_le _, rfl, rfl, Nat.le_refl _, hid ⟨W1.out, rfl⟩⟩
  case round =>
    obtain ⟨i, S, hi, rfl, rfl, hSz, hh⟩ := hrel
    have Hbx := hid hh.out.1
    have HSl := hid hh.out.2
    clear hh
    by_cases hlt : i < r + 1
    · have hir : (i : Int) < (r : Int) + 1 := by omega
      obtain ⟨bi, hbi⟩ : ∃ bi, B.getD i 0 = bi := ⟨_, rfl⟩
      have hci := hid (Hbx.out.cell (show DD[i]? = some (.int .u8 bi.toNat) by rw [HB.out i (by omega), hbi]))
      obtain ⟨xa, hxa⟩ : ∃ xa : Nat, xa = n / 2 ^ (24 - 8 * i) % 256 := ⟨_, rfl⟩
      obtain ⟨xv, hxv⟩ : ∃ xv : Nat, xv = xOf n (r + 1) i := ⟨_, rfl⟩
      have hxl := hid (show xv < 4294967296 by rw [hxv]; exact xOf_lt _ _ _)
      have HXV := hid hxv
      have HXA := hid hxa
      obtain ⟨fi, hfi⟩ : ∃ fi : Nat, fi = bi.toNat % 5 := ⟨_, rfl⟩
      have hffi := hid (show f i = fi by rw [Hf.out, hfi]; show (B.getD i 0).toNat % 5 = _; rw [hbi])
      obtain ⟨S1, hS1⟩ : ∃ S1 : ByteArray, S1.data.toList = S.data.toList ++ (if 0 < i then [46] else []) := ⟨⟨(S.data.toList ++ (if 0 < i then [46] else [])).toArray⟩, by simp⟩
      have HS1 := hid hS1
      have hz1 : S1.size ≤ 38 * i + 1 := by
        rw [Lib.size_eq, hS1, List.length_append, ← Lib.size_eq]
        have : (if 0 < i then [46] else ([] : List UInt8)).length ≤ 1 := by split <;> simp
        omega
      obtain ⟨S2, hS2⟩ : ∃ S2 : ByteArray, S2.data.toList = S1.data.toList ++ formP fi xv := ⟨⟨(S1.data.toList ++ formP fi xv).toArray⟩, by simp⟩
      have HS2 := hid (show S2.data.toList = tF n f (r + 1) (i + 1) by
        rw [hS2, hS1, HSl.out, tF, hffi.out, ← hxv, List.append_assoc])
      have HS2a := hid hS2
      have hz2 := hid (show S2.size ≤ 38 * (i + 1) by
        rw [Lib.size_eq, hS2, List.length_append, ← Lib.size_eq]
        have := form_len fi xv hxl.out
        omega)
      clear hxa hxv hbi hS1 hS2
      go_upto_region 6 with fail
      go_cut [10] (fun v wx => v = .int .u32 xa ∧ wr = wx)
      case first =>
        clear v5 v6 hfi hz1 hSz
        obtain rfl | rfl | rfl | rfl : i = 0 ∨ i = 1 ∨ i = 2 ∨ i = 3 := by omega
        · obtain ⟨q, hq⟩ : ∃ q : Nat, (n : Int) / 16777216 = (q : Int) := ⟨n / 16777216, by omega⟩
          have hqn : q = n / 16777216 := by omega
          have hw : IntKind.u32.wrap (q : Int) = (q : Int) := u32_in q (by omega)
          have hm : bits .and .u32 (q : Int) 255 = (xa : Int) := by
            rw [u32_mask q (by omega), HXA.out, hqn]
          clear hqn hn
          go_wp2
          go_meet
          exact ⟨rfl, rfl⟩
        · obtain ⟨q, hq⟩ : ∃ q : Nat, (n : Int) / 65536 = (q : Int) := ⟨n / 65536, by omega⟩
          have hqn : q = n / 65536 := by omega
          have hw : IntKind.u32.wrap (q : Int) = (q : Int) := u32_in q (by omega)
          have hm : bits .and .u32 (q : Int) 255 = (xa : Int) := by
            rw [u32_mask q (by omega), HXA.out, hqn]
          clear hqn hn
          go_wp2
          go_meet
          exact ⟨rfl, rfl⟩
        · obtain ⟨q, hq⟩ : ∃ q : Nat, (n : Int) / 256 = (q : Int) := ⟨n / 256, by omega⟩
          have hqn : q = n / 256 := by omega
          have hw : IntKind.u32.wrap (q : Int) = (q : Int) := u32_in q (by omega)
          have hm : bits .and .u32 (q : Int) 255 = (xa : Int) := by
            rw [u32_mask q (by omega), HXA.out, hqn]
          clear hqn hn
          go_wp2
          go_meet
          exact ⟨rfl, rfl⟩
        · have hw : IntKind.u32.wrap (n : Int) = (n : Int) := u32_in n hn
          have hm : bits .and .u32 (n : Int) 255 = (xa : Int) := by
            rw [u32_mask n hn, HXA.out]
            show ((n % 256 : Nat) : Int) = ((n / 1 % 256 : Nat) : Int)
            rw [Nat.div_one]
          clear hn
          go_wp2
          go_meet
          exact ⟨rfl, rfl⟩
      obtain ⟨rfl, rfl⟩ := hcut
      go_upto_region 7 with fail
      obtain ⟨q1, hq1⟩ : ∃ q : Bool, q = decide (i = r) := ⟨_, rfl⟩
      go_cut [33] (fun v wx => v = .bool q1 ∧ wr = wx)
      case first =>
        by_cases hq : i = r
        · have e1 : ((i : Int) == (r : Int)) = true := by rw [beq_iff_eq]; omega
          have hqq := hid (show q1 = true by rw [hq1]; exact decide_eq_true hq)
          clear hq hq1
          go_wp2
          go_meet
          exact ⟨by rw [hqq.out], rfl⟩
        · have e1 : ((i : Int) == (r : Int)) = false := by rw [beq_eq_false_iff_ne]; omega
          have hqq := hid (show q1 = false by rw [hq1]; exact decide_eq_false hq)
          clear hq hq1
          go_wp2
          go_meet
          exact ⟨by rw [hqq.out], rfl⟩
      obtain ⟨rfl, rfl⟩ := hcut
      go_upto_if 33 with fail
      go_cut [10] (fun v wx => v = .int .u32 xv ∧ wr = wx)
      case first =>
        cases q1 with
        | true =>
          have hq := of_decide_eq_true hq1.symm
          have hx2 := HXV.out
          unfold xOf at hx2
          rw [if_pos (by omega)] at hx2
          have HX2 := hid hx2
          clear hx2 hq1 v5 v6 hfi hz1 hSz hir
          obtain rfl | rfl | rfl | rfl : i = 0 ∨ i = 1 ∨ i = 2 ∨ i = 3 := by omega
          · have hw : IntKind.u32.wrap (n : Int) = (n : Int) := u32_in n hn
            have hxn : (n : Int) = (xv : Int) := by
              have : xv = n % 4294967296 := HX2.out
              omega
            have HN := hid hxn
            clear hxn hn hq
            go_wp2
            go_meet
            exact ⟨by rw [HN.out], rfl⟩
          · obtain ⟨y, hy⟩ : ∃ y : Nat, IntKind.u32.wrap ((n : Int) * 256) = (y : Int) := ⟨n * 256 % 4294967296, by rw [IntKind.wrap_u32']; omega⟩
            have hyn : (y : Int) = (n : Int) * 256 % 4294967296 := by rw [← hy, IntKind.wrap_u32']
            have hw : IntKind.u32.wrap (y : Int) = (y : Int) := u32_in y (by omega)
            have hz : (y : Int) / 256 = (xv : Int) := by
              have : xv = n % 16777216 := HX2.out
              omega
            have hw2 : IntKind.u32.wrap (xv : Int) = (xv : Int) := u32_in xv hxl.out
            clear hyn hn hq
            go_wp2
            go_meet
            exact ⟨rfl, rfl⟩
          · obtain ⟨y, hy⟩ : ∃ y : Nat, IntKind.u32.wrap ((n : Int) * 65536) = (y : Int) := ⟨n * 65536 % 4294967296, by rw [IntKind.wrap_u32']; omega⟩
            have hyn : (y : Int) = (n : Int) * 65536 % 4294967296 := by rw [← hy, IntKind.wrap_u32']
            have hw : IntKind.u32.wrap (y : Int) = (y : Int) := u32_in y (by omega)
            have hz : (y : Int) / 65536 = (xv : Int) := by
              have : xv = n % 65536 := HX2.out
              omega
            have hw2 : IntKind.u32.wrap (xv : Int) = (xv : Int) := u32_in xv hxl.out
            clear hyn hn hq
            go_wp2
            go_meet
            exact ⟨rfl, rfl⟩
          · obtain ⟨y, hy⟩ : ∃ y : Nat, IntKind.u32.wrap ((n : Int) * 16777216) = (y : Int) := ⟨n * 16777216 % 4294967296, by rw [IntKind.wrap_u32']; omega⟩
            have hyn : (y : Int) = (n : Int) * 16777216 % 4294967296 := by rw [← hy, IntKind.wrap_u32']
            have hw : IntKind.u32.wrap (y : Int) = (y : Int) := u32_in y (by omega)
            have hz : (y : Int) / 16777216 = (xv : Int) := by
              have : xv = n % 256 := HX2.out
              omega
            have hw2 : IntKind.u32.wrap (xv : Int) = (xv : Int) := u32_in xv hxl.out
            clear hyn hn hq
            go_wp2
            go_meet
            exact ⟨rfl, rfl⟩
        | false =>
          have hq := of_decide_eq_false hq1.symm
          have hxx : xv = xa := by
            rw [HXV.out, HXA.out]; unfold xOf; rw [if_neg (by omega)]
          have HN := hid hxx
          clear hxx hq hq1
          go_wp2
          go_meet
          exact ⟨by rw [HN.out], rfl⟩
      obtain ⟨rfl, rfl⟩ := hcut
      go_upto_region 9 with fail
      obtain ⟨q2, hq2⟩ : ∃ q : Bool, q = decide (0 < i) := ⟨_, rfl⟩
      go_cut [42] (fun v wx => v = .bool q2 ∧ wr = wx)
      case first =>
        by_cases hq : 0 < i
        · have e1 : (i : Int) > 0 := by omega
          have hqq := hid (show q2 = true by rw [hq2]; exact decide_eq_true hq)
          have hdd := hid (decide_eq_true hq)
          clear hq hq2
          go_wp2
          go_meet
          exact ⟨by rw [hqq.out]; first | rfl | rw [hdd.out], rfl⟩
        · obtain rfl : i = 0 := by omega
          have hqq := hid (show q2 = false by rw [hq2]; rfl)
          clear hq hq2
          go_wp2
          go_meet
          exact ⟨by rw [hqq.out], rfl⟩
      obtain ⟨rfl, rfl⟩ := hcut
      go_upto_if 42 with fail
      go_cut [8] (fun v wx => v = .string S1 ∧ wr = wx)
      case first =>
        cases q2 with
        | true =>
          have h2 := of_decide_eq_true hq2.symm
          have e1 : S1 = S ++ ⟨#[46]⟩ := bytes_ext (by rw [HS1.out, if_pos h2, catL])
          have a1 := addS e1 (by omega) (by show (1 : Int) ≤ _; decide)
          clear e1 hq2 h2
          go_wp2
          go_meet
          exact ⟨rfl, rfl⟩
        | false =>
          have h2 := of_decide_eq_false hq2.symm
          have e1 : S1 = S := bytes_ext (by rw [HS1.out, if_neg h2]; simp)
          have HN := hid e1
          clear e1 hq2 h2
          go_wp2
          go_meet
          exact ⟨by rw [HN.out], rfl⟩
      obtain ⟨rfl, rfl⟩ := hcut
      have hf5 : fi < 5 := by omega
      have t5 : (bi.toNat : Int).tmod 5 = (fi : Int) := by rw [Int.tmod_eq_emod_of_nonneg (by omega)]; omega
      have u5 : (bi.toNat : Int) % 5 = (fi : Int) := by omega
      have w5 : IntKind.u8.wrap (fi : Int) = (fi : Int) := IntWalk.u8_in _ (by omega)
      have c5 := hci.out
      clear hfi
      go_upto_region 12 with fail
      clear c5 t5 u5 w5
      go_upto_if 49 with fail
      have hz3 : S1.size ≤ 200 := by omega
      have hxl2 := hxl.out
      clear v5 v6 hSz hir
      obtain rfl | rfl | rfl | rfl | rfl : fi = 0 ∨ fi = 1 ∨ fi = 2 ∨ fi = 3 ∨ fi = 4 := by omega
      · obtain ⟨Dg, hDg⟩ : ∃ D, D = baseT 10 xv := ⟨_, rfl⟩
        have zD : Dg.size ≤ 32 := by rw [hDg]; exact baseT_32 (by omega) hxl2
        have lD : Dg.data.toList = baseD 10 xv := by rw [hDg, baseT]
        have CD : Hid (∀ w, Calls Tryd.prog 20 #[.int .u32 xv, .int .u32 10] w fun e w' => e = .returned (.string Dg) ∧ Below w.heap.size w w') := hid (by rw [hDg]; exact dig10_any _ hxl2)
        have hE : S2 = S1 ++ Dg := bytes_ext (by
          rw [HS2a.out, catL, lD]
          rfl)
        have a2 := addS hE (by omega) (by omega)
        clear hE hDg lD hxl2
        go_wp2_with fail
        refine (CD.out _).mono ?_
        rintro e w5 ⟨rfl, hb5⟩
        have HBc := hid (Hbx.out.go hb5)
        clear hb5
        go_wp2
        exact ⟨⟨i + 1, S2, by omega, by go_num, rfl, hz2.out, hid ⟨HBc.out, HS2.out⟩⟩, by simp only [RowKit.intOf]; omega⟩
      · obtain ⟨Dg, hDg⟩ : ∃ D, D = baseT 16 xv := ⟨_, rfl⟩
        have zD : Dg.size ≤ 32 := by rw [hDg]; exact baseT_32 (by omega) hxl2
        have lD : Dg.data.toList = baseD 16 xv := by rw [hDg, baseT]
        have CD : Hid (∀ w, Calls Tryd.prog 20 #[.int .u32 xv, .int .u32 16] w fun e w' => e = .returned (.string Dg) ∧ Below w.heap.size w w') := hid (by rw [hDg]; exact dig16_any _ hxl2)
        obtain ⟨T, hT⟩ : ∃ T, T = S1 ++ ⟨#[48, 120]⟩ := ⟨_, rfl⟩
        have zT : T.size = S1.size + 2 := by rw [hT, catZ]; rfl
        have hE : S2 = T ++ Dg := bytes_ext (by
          rw [HS2a.out, catL, hT, catL, lD]
          show _ ++ formP 1 xv = _
          unfold formP
          simp)
        have a1 := addS hT (by omega) (by show (2 : Int) ≤ _; decide)
        have a2 := addS hE (by omega) (by omega)
        clear hT hE hDg lD zT hxl2
        go_wp2_with fail
        refine (CD.out _).mono ?_
        rintro e w5 ⟨rfl, hb5⟩
        have HBc := hid (Hbx.out.go hb5)
        clear hb5
        go_wp2
        exact ⟨⟨i + 1, S2, by omega, by go_num, rfl, hz2.out, hid ⟨HBc.out, HS2.out⟩⟩, by simp only [RowKit.intOf]; omega⟩
      · obtain ⟨Dg, hDg⟩ : ∃ D, D = baseT 8 xv := ⟨_, rfl⟩
        have zD : Dg.size ≤ 32 := by rw [hDg]; exact baseT_32 (by omega) hxl2
        have lD : Dg.data.toList = baseD 8 xv := by rw [hDg, baseT]
        have CD : Hid (∀ w, Calls Tryd.prog 20 #[.int .u32 xv, .int .u32 8] w fun e w' => e = .returned (.string Dg) ∧ Below w.heap.size w w') := hid (by rw [hDg]; exact dig8_any _ hxl2)
        obtain ⟨T, hT⟩ : ∃ T, T = S1 ++ ⟨#[48]⟩ := ⟨_, rfl⟩
        have zT : T.size = S1.size + 1 := by rw [hT, catZ]; rfl
        have hE : S2 = T ++ Dg := bytes_ext (by
          rw [HS2a.out, catL, hT, catL, lD]
          show _ ++ formP 2 xv = _
          unfold formP
          simp)
        have a1 := addS hT (by omega) (by show (1 : Int) ≤ _; decide)
        have a2 := addS hE (by omega) (by omega)
        clear hT hE hDg lD zT hxl2
        go_wp2_with fail
        refine (CD.out _).mono ?_
        rintro e w5 ⟨rfl, hb5⟩
        have HBc := hid (Hbx.out.go hb5)
        clear hb5
        go_wp2
        exact ⟨⟨i + 1, S2, by omega, by go_num, rfl, hz2.out, hid ⟨HBc.out, HS2.out⟩⟩, by simp only [RowKit.intOf]; omega⟩
      · obtain ⟨Dg, hDg⟩ : ∃ D, D = baseT 16 xv := ⟨_, rfl⟩
        have zD : Dg.size ≤ 32 := by rw [hDg]; exact baseT_32 (by omega) hxl2
        have lD : Dg.data.toList = baseD 16 xv := by rw [hDg, baseT]
        have CD : Hid (∀ w, Calls Tryd.prog 20 #[.int .u32 xv, .int .u32 16] w fun e w' => e = .returned (.string Dg) ∧ Below w.heap.size w w') := hid (by rw [hDg]; exact dig16_any _ hxl2)
        obtain ⟨T, hT⟩ : ∃ T, T = S1 ++ ⟨#[48, 88, 48, 48, 48]⟩ := ⟨_, rfl⟩
        have zT : T.size = S1.size + 5 := by rw [hT, catZ]; rfl
        have hE : S2 = T ++ Dg := bytes_ext (by
          rw [HS2a.out, catL, hT, catL, lD]
          show _ ++ formP 3 xv = _
          unfold formP
          simp)
        have a1 := addS hT (by omega) (by show (5 : Int) ≤ _; decide)
        have a2 := addS hE (by omega) (by omega)
        clear hT hE hDg lD zT hxl2
        go_wp2_with fail
        refine (CD.out _).mono ?_
        rintro e w5 ⟨rfl, hb5⟩
        have HBc := hid (Hbx.out.go hb5)
        clear hb5
        go_wp2
        exact ⟨⟨i + 1, S2, by omega, by go_num, rfl, hz2.out, hid ⟨HBc.out, HS2.out⟩⟩, by simp only [RowKit.intOf]; omega⟩
      · obtain ⟨Dg, hDg⟩ : ∃ D, D = baseT 8 xv := ⟨_, rfl⟩
        have zD : Dg.size ≤ 32 := by rw [hDg]; exact baseT_32 (by omega) hxl2
        have lD : Dg.data.toList = baseD 8 xv := by rw [hDg, baseT]
        have CD : Hid (∀ w, Calls Tryd.prog 20 #[.int .u32 xv, .int .u32 8] w fun e w' => e = .returned (.string Dg) ∧ Below w.heap.size w w') := hid (by rw [hDg]; exact dig8_any _ hxl2)
        obtain ⟨T, hT⟩ : ∃ T, T = S1 ++ ⟨#[48, 48, 48]⟩ := ⟨_, rfl⟩
        have zT : T.size = S1.size + 3 := by rw [hT, catZ]; rfl
        have hE : S2 = T ++ Dg := bytes_ext (by
          rw [HS2a.out, catL, hT, catL, lD]
          show _ ++ formP 4 xv = _
          unfold formP
          simp)
        have a1 := addS hT (by omega) (by show (3 : Int) ≤ _; decide)
        have a2 := addS hE (by omega) (by omega)
        clear hT hE hDg lD zT hxl2
        go_wp2_with fail
        refine (CD.out _).mono ?_
        rintro e w5 ⟨rfl, hb5⟩
        have HBc := hid (Hbx.out.go hb5)
        clear hb5
        go_wp2
        exact ⟨⟨i + 1, S2, by omega, by go_num, rfl, hz2.out, hid ⟨HBc.out, HS2.out⟩⟩, by simp only [RowKit.intOf]; omega⟩
    · obtain rfl : i = r + 1 := by omega
      have hir : ¬ ((r : Int) + 1 < (r : Int) + 1) := by omega
      obtain ⟨SP, hSP⟩ : ∃ SP : ByteArray, SP.data.toList = S.data.toList ++ if p = true then [46] else [] := ⟨⟨(S.data.toList ++ if p = true then [46] else []).toArray⟩, by simp⟩
      have HSP := hid hSP
      have hl := hid (show SP.data.toList = formText n f (r + 1) p by
        rw [hSP, HSl.out, HJ.out (by omega)]; rfl)
      clear hSP
      go_upto_if 83 with fail
      go_cut [8] (fun v wx => v = .string SP ∧ wr = wx)
      case first =>
        cases p with
        | true =>
          have e1 : SP = S ++ ⟨#[46]⟩ := bytes_ext (by rw [HSP.out, if_pos rfl, catL])
          have a1 := addS e1 (by omega) (by show (1 : Int) ≤ _; decide)
          clear e1
          go_wp2
          go_meet
          exact ⟨rfl, rfl⟩
        | false =>
          have e1 : SP = S := bytes_ext (by rw [HSP.out, if_neg (by decide)]; simp)
          have HN := hid e1
          clear e1
          go_wp2
          go_meet
          exact ⟨by rw [HN.out], rfl⟩
      obtain ⟨rfl, rfl⟩ := hcut
      have HC := hid (HF.out SP hl.out)
      clear hir hlt hi hSz v5 v6
      go_wp2_with fail
      refine (HC.out _ (G.out.below Hbx.out.adr.below)).mono ?_
      rintro e w4 ⟨rfl, hb4⟩
      have U4 := hid (Hbx.out.go hb4)
      clear hb4
      go_upto_region 25 with (refine wpList_store_row rfl 24 _ _ rfl w4.heap.size C4 rfl rfl _ _ (heap_alloc_new w4 _) y4.out.2.1 y4.out.1 y4.out.2.2 ?_)
      have V4 := hid (U4.out.add #[.bool false, .int .u8 0, .int .u8 0, .int .u8 0, .int .u8 0, .int .u8 0, .int .u8 0, .int .u8 0, .int .u8 0, .int .u8 0, .int .u8 0, .int .u8 0, .int .u8 0, .int .u8 0, .int .u8 0, .int .u8 0, .int .u8 0] C4)
      generalize World.setRow _ w4.heap.size C4 = v4 at *
      have e4 := q4.out
      have hc := Hc.out
      have k0 : IntKind.u32.wrap ((n : Int) / 16777216) = (n : Int) / 16777216 := by rw [IntKind.wrap_u32']; omega
      have k1 : IntKind.u32.wrap ((n : Int) / 65536) = (n : Int) / 65536 := by rw [IntKind.wrap_u32']; omega
      have k2 : IntKind.u32.wrap ((n : Int) / 256) = (n : Int) / 256 := by rw [IntKind.wrap_u32']; omega
      have m0 : IntKind.u8.wrap ((n : Int) / 16777216) = (a0.toNat : Int) := by rw [hc.1, IntKind.wrap_u8', UInt8.toNat_ofNat']; omega
      have m1 : IntKind.u8.wrap ((n : Int) / 65536) = (a1.toNat : Int) := by rw [hc.2.1, IntKind.wrap_u8', UInt8.toNat_ofNat']; omega
      have m2 : IntKind.u8.wrap ((n : Int) / 256) = (a2.toNat : Int) := by rw [hc.2.2.1, IntKind.wrap_u8', UInt8.toNat_ofNat']; omega
      have m3 : IntKind.u8.wrap (n : Int) = (a3.toNat : Int) := by rw [hc.2.2.2, IntKind.wrap_u8', UInt8.toNat_ofNat']; omega
      clear hc hn
      refine wp_region_held_drew (S := fun W => Boxf w [(w4.heap.size, C4)] w.heap.size DD W) (by kernel_rfl) V4.out.drew (fun hHeld => ?_)
      refine wpAnyH_ready (rs := [0]) (by kernel_rfl) (by simp) ?_
      refine AllReadyH.cons (o := _) rfl (fun K hK => ?_) AllReadyH.nil
      go_simp
      refine (alive_any _ (G.out.below hHeld.adr.below)).mono ?_
      rintro e u0 ⟨rfl, hb0⟩
      have hS0 := Boxf.go hHeld hb0
      clear hb0 hHeld
      go_wp2_with fail
      refine hK.out _ _ hS0 (fun hHeld => ?_)
      clear hK K
      try simp only [Act.put, List.getElem_toArray, List.getElem_cons_succ, List.getElem_cons_zero, List.setIfInBounds_toArray, List.set_cons_zero, List.set_cons_succ]
      refine wpAnyH_take (i := 1) (oi := _) (v := ?_) rfl (by kernel_rfl) (by kernel_rfl) (by kernel_rfl) (fun _ _ _ h => h) (Or.inl ⟨by rfl, ?_⟩) (by assumption) ?_
      rotate_left
      · intro W hSw
        go_simp
        try (with_reducible rfl)
      try simp only [Act.put, List.getElem_toArray, List.getElem_cons_succ, List.getElem_cons_zero, List.setIfInBounds_toArray, List.set_cons_zero, List.set_cons_succ]
      refine wpAnyH_take (i := 2) (oi := _) (v := ?_) rfl (by kernel_rfl) (by kernel_rfl) (by kernel_rfl) (fun _ _ _ h => h) (Or.inl ⟨by rfl, ?_⟩) (by assumption) ?_
      rotate_left
      · intro W hSw
        go_simp
        try (with_reducible rfl)
      try simp only [Act.put, List.getElem_toArray, List.getElem_cons_succ, List.getElem_cons_zero, List.setIfInBounds_toArray, List.set_cons_zero, List.set_cons_succ]
      refine wpAnyH_take (i := 3) (oi := _) (v := ?_) rfl (by kernel_rfl) (by kernel_rfl) (by kernel_rfl) (fun _ _ _ h => h) (Or.inl ⟨by rfl, ?_⟩) (by assumption) ?_
      rotate_left
      · intro W hSw
        go_simp
        try (with_reducible rfl)
      try simp only [Act.put, List.getElem_toArray, List.getElem_cons_succ, List.getElem_cons_zero, List.setIfInBounds_toArray, List.set_cons_zero, List.set_cons_succ]
      refine wpAnyH_take (i := 4) (oi := _) (v := ?_) rfl (by kernel_rfl) (by kernel_rfl) (by kernel_rfl) (fun _ _ _ h => h) (Or.inl ⟨by rfl, ?_⟩) (by assumption) ?_
      rotate_left
      · intro W hSw
        go_simp
        try (with_reducible rfl)
      try simp only [Act.put, List.getElem_toArray, List.getElem_cons_succ, List.getElem_cons_zero, List.setIfInBounds_toArray, List.set_cons_zero, List.set_cons_succ]
      refine wpAnyH_take (i := 5) (oi := _) (v := ?_) rfl (by kernel_rfl) (by kernel_rfl) (by kernel_rfl) (fun _ _ _ h => h) (Or.inl ⟨by rfl, ?_⟩) (by assumption) ?_
      rotate_left
      · intro W hSw
        go_simp
        try (with_reducible rfl)
      try simp only [Act.put, List.getElem_toArray, List.getElem_cons_succ, List.getElem_cons_zero, List.setIfInBounds_toArray, List.set_cons_zero, List.set_cons_succ]
      refine wpAnyH_take (i := 6) (oi := _) (v := ?_) rfl (by kernel_rfl) (by kernel_rfl) (by kernel_rfl) (fun _ _ _ h => h) (Or.inl ⟨by rfl, ?_⟩) (by assumption) ?_
      rotate_left
      · intro W hSw
        go_simp
        try (with_reducible rfl)
      try simp only [Act.put, List.getElem_toArray, List.getElem_cons_succ, List.getElem_cons_zero, List.setIfInBounds_toArray, List.set_cons_zero, List.set_cons_succ]
      refine wpAnyH_take (i := 7) (oi := _) (v := ?_) rfl (by kernel_rfl) (by kernel_rfl) (by kernel_rfl) (fun _ _ _ h => h) (Or.inl ⟨by rfl, ?_⟩) (by assumption) ?_
      rotate_left
      · intro W hSw
        go_simp
        try (with_reducible rfl)
      try simp only [Act.put, List.getElem_toArray, List.getElem_cons_succ, List.getElem_cons_zero, List.setIfInBounds_toArray, List.set_cons_zero, List.set_cons_succ]
      refine wpAnyH_take (i := 8) (oi := _) (v := ?_) rfl (by kernel_rfl) (by kernel_rfl) (by kernel_rfl) (fun _ _ _ h => h) (Or.inl ⟨by rfl, ?_⟩) (by assumption) ?_
      rotate_left
      · intro W hSw
        go_simp
        try (with_reducible rfl)
      try simp only [Act.put, List.getElem_toArray, List.getElem_cons_succ, List.getElem_cons_zero, List.setIfInBounds_toArray, List.set_cons_zero, List.set_cons_succ]
      refine wpAnyH_take (i := 9) (oi := _) (v := _) rfl (by kernel_rfl) (by kernel_rfl) (by kernel_rfl) (fun _ _ _ h => h) (yields_boxf (by rfl) _ rfl rfl (List.mem_singleton.2 rfl) y4.out.2.1) (by assumption) ?_
      try simp only [Act.put, List.getElem_toArray, List.getElem_cons_succ, List.getElem_cons_zero, List.setIfInBounds_toArray, List.set_cons_zero, List.set_cons_succ]
      refine wpAnyH_take (i := 10) (oi := _) (v := ?_) rfl (by kernel_rfl) (by kernel_rfl) (by kernel_rfl) (fun _ _ _ h => h) (Or.inl ⟨by rfl, ?_⟩) (by assumption) ?_
      rotate_left
      · intro W hSw
        go_simp
        try (with_reducible rfl)
      try simp only [Act.put, List.getElem_toArray, List.getElem_cons_succ, List.getElem_cons_zero, List.setIfInBounds_toArray, List.set_cons_zero, List.set_cons_succ]
      refine wpAnyH_take (i := 11) (oi := _) (v := ?_) rfl (by kernel_rfl) (by kernel_rfl) (by kernel_rfl) (fun _ _ _ h => h) (Or.inl ⟨by rfl, ?_⟩) (by assumption) ?_
      rotate_left
      · intro W hSw
        go_simp
        try (with_reducible rfl)
      try simp only [Act.put, List.getElem_toArray, List.getElem_cons_succ, List.getElem_cons_zero, List.setIfInBounds_toArray, List.set_cons_zero, List.set_cons_succ]
      refine wpAnyH_take (i := 12) (oi := _) (v := ?_) rfl (by kernel_rfl) (by kernel_rfl) (by kernel_rfl) (fun _ _ _ h => h) (Or.inl ⟨by rfl, ?_⟩) (by assumption) ?_
      rotate_left
      · intro W hSw
        go_simp
        try (with_reducible rfl)
      try simp only [Act.put, List.getElem_toArray, List.getElem_cons_succ, List.getElem_cons_zero, List.setIfInBounds_toArray, List.set_cons_zero, List.set_cons_succ]
      refine wpAnyH_take (i := 13) (oi := _) (v := ?_) rfl (by kernel_rfl) (by kernel_rfl) (by kernel_rfl) (fun _ _ _ h => h) (Or.inl ⟨by rfl, ?_⟩) (by assumption) ?_
      rotate_left
      · intro W hSw
        go_simp
        try (with_reducible rfl)
      try simp only [Act.put, List.getElem_toArray, List.getElem_cons_succ, List.getElem_cons_zero, List.setIfInBounds_toArray, List.set_cons_zero, List.set_cons_succ]
      refine wpAnyH_take (i := 14) (oi := _) (v := ?_) rfl (by kernel_rfl) (by kernel_rfl) (by kernel_rfl) (fun _ _ _ h => h) (Or.inl ⟨by rfl, ?_⟩) (by assumption) ?_
      rotate_left
      · intro W hSw
        go_simp
        try (with_reducible rfl)
      try simp only [Act.put, List.getElem_toArray, List.getElem_cons_succ, List.getElem_cons_zero, List.setIfInBounds_toArray, List.set_cons_zero, List.set_cons_succ]
      refine wpAnyH_take (i := 15) (oi := _) (v := ?_) rfl (by kernel_rfl) (by kernel_rfl) (by kernel_rfl) (fun _ _ _ h => h) (Or.inl ⟨by rfl, ?_⟩) (by assumption) ?_
      rotate_left
      · intro W hSw
        go_simp
        try (with_reducible rfl)
      try simp only [Act.put, List.getElem_toArray, List.getElem_cons_succ, List.getElem_cons_zero, List.setIfInBounds_toArray, List.set_cons_zero, List.set_cons_succ]
      refine wpAnyH_take (i := 16) (oi := _) (v := ?_) rfl (by kernel_rfl) (by kernel_rfl) (by kernel_rfl) (fun _ _ _ h => h) (Or.inl ⟨by rfl, ?_⟩) (by assumption) ?_
      rotate_left
      · intro W hSw
        go_simp
        try (with_reducible rfl)
      try simp only [Act.put, List.getElem_toArray, List.getElem_cons_succ, List.getElem_cons_zero, List.setIfInBounds_toArray, List.set_cons_zero, List.set_cons_succ]
      refine wpAnyH_take (i := 17) (oi := _) (v := ?_) rfl (by kernel_rfl) (by kernel_rfl) (by kernel_rfl) (fun _ _ _ h => h) (Or.inl ⟨by rfl, ?_⟩) (by assumption) ?_
      rotate_left
      · intro W hSw
        go_simp
        try (with_reducible rfl)
      try simp only [Act.put, List.getElem_toArray, List.getElem_cons_succ, List.getElem_cons_zero, List.setIfInBounds_toArray, List.set_cons_zero, List.set_cons_succ]
      refine wpAnyH_take (i := 18) (oi := _) (v := ?_) rfl (by kernel_rfl) (by kernel_rfl) (by kernel_rfl) (fun _ _ _ h => h) (Or.inl ⟨by rfl, ?_⟩) (by assumption) ?_
      rotate_left
      · intro W hSw
        go_simp
        try (with_reducible rfl)
      try simp only [Act.put, List.getElem_toArray, List.getElem_cons_succ, List.getElem_cons_zero, List.setIfInBounds_toArray, List.set_cons_zero, List.set_cons_succ]
      refine wpAnyH_take (i := 19) (oi := _) (v := ?_) rfl (by kernel_rfl) (by kernel_rfl) (by kernel_rfl) (fun _ _ _ h => h) (Or.inl ⟨by rfl, ?_⟩) (by assumption) ?_
      rotate_left
      · intro W hSw
        go_simp
        try (with_reducible rfl)
      try simp only [Act.put, List.getElem_toArray, List.getElem_cons_succ, List.getElem_cons_zero, List.setIfInBounds_toArray, List.set_cons_zero, List.set_cons_succ]
      refine wpAnyH_take (i := 20) (oi := _) (v := ?_) rfl (by kernel_rfl) (by kernel_rfl) (by kernel_rfl) (fun _ _ _ h => h) (Or.inl ⟨by rfl, ?_⟩) (by assumption) ?_
      rotate_left
      · intro W hSw
        go_simp
        try (with_reducible rfl)
      try simp only [Act.put, List.getElem_toArray, List.getElem_cons_succ, List.getElem_cons_zero, List.setIfInBounds_toArray, List.set_cons_zero, List.set_cons_succ]
      refine wpAnyH_ready (rs := [21]) (by kernel_rfl) (by simp) ?_
      refine AllReadyH.cons (o := _) rfl (fun K hK => ?_) AllReadyH.nil
      go_simp
      refine (hfour.out _).mono ?_
      rintro e u21 ⟨rfl, hb21⟩
      have hS21 := Boxf.go hHeld hb21
      clear hb21 hHeld
      go_wp2_with fail
      refine hK.out _ _ hS21 (fun hHeld => ?_)
      clear hK K
      try simp only [Act.put, List.getElem_toArray, List.getElem_cons_succ, List.getElem_cons_zero, List.setIfInBounds_toArray, List.set_cons_zero, List.set_cons_succ]
      refine wpAnyH_take (i := 22) (oi := _) (v := ?_) rfl (by kernel_rfl) (by kernel_rfl) (by kernel_rfl) (fun _ _ _ h => h) (Or.inl ⟨by rfl, ?_⟩) (by assumption) ?_
      rotate_left
      · intro W hSw
        go_simp
        try (with_reducible rfl)
      try simp only [Act.put, List.getElem_toArray, List.getElem_cons_succ, List.getElem_cons_zero, List.setIfInBounds_toArray, List.set_cons_zero, List.set_cons_succ]
      refine wpAnyH_take (i := 23) (oi := _) (v := ?_) rfl (by kernel_rfl) (by kernel_rfl) (by kernel_rfl) (fun _ _ _ h => h) (Or.inl ⟨by rfl, ?_⟩) (by assumption) ?_
      rotate_left
      · intro W hSw
        go_simp
        try (with_reducible rfl)
      try simp only [Act.put, List.getElem_toArray, List.getElem_cons_succ, List.getElem_cons_zero, List.setIfInBounds_toArray, List.set_cons_zero, List.set_cons_succ]
      refine wpAnyH_take (i := 24) (oi := _) (v := ?_) rfl (by kernel_rfl) (by kernel_rfl) (by kernel_rfl) (fun _ _ _ h => h) (Or.inl ⟨by rfl, ?_⟩) (by assumption) ?_
      rotate_left
      · intro W hSw
        go_simp
        try (with_reducible rfl)
      try simp only [Act.put, List.getElem_toArray, List.getElem_cons_succ, List.getElem_cons_zero, List.setIfInBounds_toArray, List.set_cons_zero, List.set_cons_succ]
      refine wpAnyH_done (by kernel_rfl) ?_ _
      have B6 := hid hHeld
      clear hHeld
      go_wp2
      go_ret
      exact ⟨rfl, B6.out.adr.below⟩
theorem addrsForms_walk (x : Int) (wx : (Lit.int .u32 x).wf = true) (l : List Int) (hl : l.length = 5) (wl : ∀ i ∈ l, (Lit.int .u8 i).wf = true) (p : Bool) (w : World) (hL : laidMetH Tryd.prog Rows.addrsFormsRow.laid w) (hsh : w.ShapedOpen Tryd.prog) :
    Calls Tryd.prog 7 #[.int .u32 x, .agg ⟨l.map (Value.int .u8)⟩, .bool p] w fun e w' => e = .returned (.bool true) ∧ Below w.heap.size w w' := by
  have A0 := ambOf Rows.laid_strconv_ErrSyntax Rows.laid_strconv_ErrRange ⟨_, _, rfl⟩ ⟨_, _, rfl⟩ hL hsh (by kernel_rfl) (by kernel_rfl) (by kernel_rfl) (by kernel_rfl) (by kernel_rfl) (by kernel_rfl)
  have hmin : IntKind.u32.min = 0 := rfl
  have hmax : IntKind.u32.max = 4294967295 := rfl
  have hx := wf_bounds wx
  obtain ⟨n, rfl⟩ := Int.eq_ofNat_of_zero_le (show 0 ≤ x by omega)
  obtain ⟨b0, b1, b2, b3, b4, e⟩ := five_of hl wl
  rw [e]
  exact addrsForms_at n (by omega) b0 b1 b2 b3 b4 _ _ _ _ _ rfl rfl rfl rfl rfl p w A0
end Go.Proofs.YtiookngmgednjaaDoor
