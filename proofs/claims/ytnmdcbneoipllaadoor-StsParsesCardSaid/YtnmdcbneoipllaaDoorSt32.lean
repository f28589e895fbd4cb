/- Walks: the reference's control, count, quoted of chapter 11. -/
import Derived.Test.YtnmdcbneoipllaaDoorTrimN
import Derived.Test.YtnmdcbneoipllaaDoorTok
import Derived.Test.YtnmdcbneoipllaaDoorLowN
import Derived.Test.YtnmdcbneoipllaaDoorSt31
namespace Go.Proofs.YtnmdcbneoipllaaDoor
open Go.RowKit Go.Lib Go.Proofs.Foot

theorem controlR_any (c : UInt8) (w : World) : Calls Tryd.prog 63 #[.int .u8 c.toNat] w fun e w' => e = .returned (.bool (ctlB c)) ∧ w = w' := by
  have c256 : (c.toNat : Int) < 256 := by have := c.toNat_lt; omega
  by_cases h32 : c.toNat < 32
  · have f1 : (c.toNat : Int) < 32 := by omega
    by_cases h9 : c.toNat = 9
    · have f2 : ((c.toNat : Int) != 9) = false := by simp; omega
      have f3 : ((c.toNat : Int) == 127) = false := by rw [beq_eq_false_iff_ne]; omega
      have H := hid (ctl_no (c := c) (by omega))
      clear h32 h9
      go_enter Tryd.func63, Tryd.ntmps63
      go_wp2
      go_ret
      exact ⟨ret_bool H.out.symm, rfl⟩
    · have f2 : ((c.toNat : Int) != 9) = true := by simp; omega
      have H := hid (ctl_yes (c := c) (by omega))
      clear h32 h9
      go_enter Tryd.func63, Tryd.ntmps63
      go_wp2
      go_ret
      exact ⟨ret_bool H.out.symm, rfl⟩
  · have f1 : ¬ (c.toNat : Int) < 32 := by omega
    by_cases h127 : c.toNat = 127
    · have f3 : ((c.toNat : Int) == 127) = true := by rw [beq_iff_eq]; omega
      have H := hid (ctl_yes (c := c) (by omega))
      clear h32 h127
      go_enter Tryd.func63, Tryd.ntmps63
      go_wp2
      go_ret
      exact ⟨ret_bool H.out.symm, rfl⟩
    · have f3 : ((c.toNat : Int) == 127) = false := by rw [beq_eq_false_iff_ne]; omega
      have H := hid (ctl_no (c := c) (by omega))
      clear h32 h127
      go_enter Tryd.func63, Tryd.ntmps63
      go_wp2
      go_ret
      exact ⟨ret_bool H.out.symm, rfl⟩
theorem control_is (c : UInt8) (b : Bool) (h : ctlB c = b) (w : World) : Calls Tryd.prog 63 #[.int .u8 c.toNat] w fun e w' => e = .returned (.bool b) ∧ w = w' := by
  have := controlR_any c w
  rw [h] at this; exact this
theorem digitN_is (c : UInt8) (b : Bool) (h : digB c = b) (w : World) : Calls Tryd.prog 47 #[.int .u8 c.toNat] w fun e w' => e = .returned (.bool b) ∧ w = w' := by
  have := digit_any c w
  rw [h] at this; exact this
/-- What count answers. -/
def cntV (l : List UInt8) : Value := match ageS l with
  | some n => .tuple #[.int .i64 n, .bool true]
  | none => .tuple #[.int .i64 0, .bool false]
theorem cntV_no {l : List UInt8} {k : Nat} {c : UInt8} (h : l[k]? = some c) (hc : digB c = false) : cntV l = .tuple #[.int .i64 0, .bool false] := by
  unfold cntV; rw [age_other ⟨c, List.mem_of_getElem? h, hc⟩]
theorem cntV_nil : cntV [] = .tuple #[.int .i64 0, .bool false] := rfl
theorem cntV_yes {l : List UInt8} (h : ∀ c ∈ l, digB c = true) (hn : l ≠ []) : cntV l = .tuple #[.int .i64 (min (digV 0 l) 2147483647 : Nat), .bool true] := by
  unfold cntV; rw [age_digs h hn]
theorem all_snoc {l : List UInt8} {k : Nat} {c : UInt8} (h : ∀ x ∈ l.take k, digB x = true) (hk : l[k]? = some c) (hc : digB c = true) : ∀ x ∈ l.take (k + 1), digB x = true := by
  intro x hx
  rw [List.take_add_one, hk] at hx
  rcases List.mem_append.1 hx with hx | hx
  · exact h x hx
  · simp at hx; rw [hx]; exact hc
theorem digV_at {l : List UInt8} {k : Nat} {c : UInt8} (hk : l[k]? = some c) : digV 0 (l.take (k + 1)) = digV 0 (l.take k) * 10 + (c.toNat - 48) := by
  rw [List.take_add_one, hk, Option.toList_some, digV_append, digV_cons, digV_nil]
set_option maxHeartbeats 1000000 in
set_option maxRecDepth 100000 in
theorem countR_any (s : ByteArray) (hs : s.size ≤ 65536) (w : World) :
    Calls Tryd.prog 33 #[.string s] w fun e w' => e = .returned (cntV s.data.toList) ∧ w = w' := by
  obtain ⟨res, hres⟩ : ∃ r, r = cntV s.data.toList := ⟨_, rfl⟩
  have HR := hid hres
  rw [← hres]
  clear hres
  go_enter Tryd.func33, Tryd.ntmps33
  go_wp2
  go_loop [4, 5] (fun n i => ∃ k m : Nat, k ≤ s.size ∧ i = .int .i64 k ∧ n = .int .i64 m ∧ m ≤ 2147483647 ∧ Hid (m = min (digV 0 (s.data.toList.take k)) 2147483647) ∧ Hid (∀ c ∈ s.data.toList.take k, digB c = true)) (fun _ i => s.size - (RowKit.intOf i).toNat)
  case atStart => exact ⟨0, 0, Nat.zero_le _, rfl, rfl, by omega, hid rfl, hid (by simp)⟩
  case round =>
    obtain ⟨k, m, hk, rfl, rfl, hm, HM, HD⟩ := hrel
    by_cases hlt : k < s.size
    · obtain ⟨d, hd⟩ : ∃ d, s[k]'hlt = d := ⟨_, rfl⟩
      have hdl := hid (show s.data.toList[k]? = some d by rw [← hd]; exact Lib.data_getElem? s k hlt)
      have d256 : (d.toNat : Int) < 256 := by have := d.toNat_lt; omega
      cases hc : digB d with
      | false =>
        have HB := hid (fun w => digitN_is d false hc w)
        have hf := hid (HR.out.trans (cntV_no hdl.out hc))
        clear hc
        go_wp2_with fail
        refine (HB.out _).mono ?_
        rintro e w' ⟨rfl, rfl⟩
        go_wp2
        go_ret2
        exact ⟨ret_val hf.out.symm, rfl⟩
      | true =>
        have HB := hid (fun w => digitN_is d true hc w)
        have hdd := (digB_iff d).1 hc
        have n1 := hid (all_snoc HD.out hdl.out hc)
        obtain ⟨q, hq⟩ : ∃ q : Nat, q = d.toNat - 48 := ⟨_, rfl⟩
        have m1 := hid (show min (10 * m + q) 2147483647 = min (digV 0 (s.data.toList.take (k + 1))) 2147483647 by
          rw [digV_at hdl.out, HM.out, hq]; omega)
        have e1 : IntKind.u8.wrap ((d.toNat : Int) - 48) = (q : Int) := by
          rw [IntWalk.u8_in _ (by omega)]; omega
        have hq9 : (q : Int) ≤ 9 := by omega
        have e2 : min 2147483647 (10 * (m : Int) + (q : Int)) = ((min (10 * m + q) 2147483647 : Nat) : Int) := by omega
        have e3 : IntKind.i64.wrap (10 * (m : Int) + (q : Int)) = 10 * (m : Int) + (q : Int) := IntWalk.i64_in _ (by omega)
        have e4 : ((d.toNat : Int) - 48) = (q : Int) := by omega
        clear hc hq
        obtain ⟨m', hm'⟩ : ∃ m', m' = min (10 * m + q) 2147483647 := ⟨_, rfl⟩
        rw [← hm'] at m1 e2
        have hml : m' ≤ 2147483647 := by omega
        clear hm' hdd
        go_wp2_with fail
        refine (HB.out _).mono ?_
        rintro e w' ⟨rfl, rfl⟩
        go_wp2
        go_round
        case rel => exact ⟨k + 1, m', by omega, by go_num, rfl, hml, m1, n1⟩
        case measure => simp [RowKit.intOf]; omega
    · have ek : s.data.toList.take k = s.data.toList := List.take_of_length_le (by rw [← Lib.size_eq]; omega)
      rw [ek] at HM HD
      by_cases hn : s.data.toList = []
      · have e1 : s.toList.isEmpty = true := by rw [Lib.toList_data, hn]; rfl
        have e2 : s.toList = [] := by rw [Lib.toList_data, hn]
        have hz : m = 0 := by rw [HM.out, hn]; rfl
        have hf := hid (show res = .tuple #[.int .i64 0, .bool false] by rw [HR.out, hn]; rfl)
        subst hz
        clear hn ek
        go_wp2
        go_ret2
        exact ⟨ret_val hf.out.symm, rfl⟩
      · have e1 : s.toList.isEmpty = false := by
          rw [Lib.toList_data]
          cases h : s.data.toList with
          | nil => exact absurd h hn
          | cons _ _ => rfl
        have e2 : ¬ s.toList = [] := by rw [Lib.toList_data]; exact hn
        have hf := hid (show res = .tuple #[.int .i64 m, .bool true] by rw [HR.out, cntV_yes HD.out hn, HM.out])
        clear hn ek
        go_wp2
        go_ret2
        exact ⟨ret_val hf.out.symm, rfl⟩
end Go.Proofs.YtnmdcbneoipllaaDoor
