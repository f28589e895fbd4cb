/- Walks: the reference's quoted and parts of chapter 11. -/
import Derived.Test.YtnmdcbneoipllaaDoorSt32
import Derived.Test.YtnmdcbneoipllaaDoorAppS
namespace Go.Proofs.YtnmdcbneoipllaaDoor
open Go.RowKit Go.Lib Go.Proofs.Foot

/-- The whole of it was said. -/
def fullQ (o : Option (List UInt8 × List UInt8)) : Option (List UInt8) := o.bind fun p => if p.2 = [] then some p.1 else none
theorem quotR_quo (r : List UInt8) : quotR (34 :: r) = fullQ (quoS false [] r) := by
  unfold quotR
  simp only
  rw [if_pos trivial]; rfl
theorem drop_at {l : List UInt8} {k : Nat} {c : UInt8} (h : l[k]? = some c) : l.drop k = c :: l.drop (k + 1) := by
  obtain ⟨hk, e⟩ := List.getElem?_eq_some_iff.1 h
  rw [← e]; exact List.drop_eq_getElem_cons hk
def QuotP (s : ByteArray) (w : World) (e : Ending) (w' : World) : Prop := ∃ (V : ByteArray) (b : Bool), e = .returned (.tuple #[.string V, .bool b]) ∧ quotR s.data.toList = (if b = true then some V.data.toList else none) ∧ V.size ≤ s.size ∧ Below w.heap.size w w'
theorem QuotP.no {s : ByteArray} {w w' : World} (h : quotR s.data.toList = none) (hb : Below w.heap.size w w') : QuotP s w (.returned (.tuple #[.string ⟨#[]⟩, .bool false])) w' :=
  ⟨⟨#[]⟩, false, rfl, by rw [h]; rfl, Nat.zero_le _, hb⟩
theorem beq_byte {c d : UInt8} : (((c.toNat : Int)) == ((d.toNat : Int))) = decide (c = d) := by
  by_cases h : c = d
  · rw [h]; simp
  · rw [decide_eq_false h, beq_eq_false_iff_ne]; intro e; exact h (UInt8.toNat.inj (by omega))
set_option maxHeartbeats 2000000 in
set_option maxRecDepth 100000 in
theorem quotedR_any (s : ByteArray) (hs : s.size ≤ 65536) (w : World) :
    Calls Tryd.prog 46 #[.string s] w (QuotP s w) := by
  by_cases h2 : s.size < 2
  · have hi : (s.size : Int) < 2 := by omega
    have hq := hid (show quotR s.data.toList = none by
      cases hl : s.data.toList with
      | nil => rfl
      | cons c r =>
        have : r = [] := by
          have := congrArg List.length hl
          rw [List.length_cons, ← Lib.size_eq] at this
          exact List.eq_nil_of_length_eq_zero (by omega)
        subst this
        unfold quotR
        simp only
        split <;> rfl)
    clear h2
    go_enter Tryd.func46, Tryd.ntmps46
    go_wp2
    go_ret2
    exact QuotP.no hq.out (Below.refl _ _)
  · have hi : ¬ (s.size : Int) < 2 := by omega
    have h0 : 0 < s.size := by omega
    obtain ⟨d0, hd0⟩ : ∃ d, s[0]'h0 = d := ⟨_, rfl⟩
    have hl0 := hid (show s.data.toList[0]? = some d0 by rw [← hd0]; exact Lib.data_getElem? s 0 h0)
    have hsz0 : (0 : Int) < (s.size : Int) := by omega
    by_cases h34 : d0 = 34
    · have e34 : ((d0.toNat : Int) != 34) = false := by rw [h34]; rfl
      have hq := hid (show fullQ (quoS false [] (s.data.toList.drop 1)) = quotR s.data.toList by
        have := drop_at hl0.out
        rw [List.drop_zero, h34] at this
        have e := quotR_quo (s.data.toList.drop 1)
        rw [← e]
        exact congrArg quotR this.symm)
      clear h34
      go_enter Tryd.func46, Tryd.ntmps46
      go_wp2
      go_loopg [4, 5] s.size (fun g v i wr => ∃ (k : Nat) (acc : List UInt8), 1 ≤ k ∧ k + g = s.size + 1 ∧ k ≤ s.size ∧ i = .int .i64 k ∧ acc.length ≤ k ∧ wr.ownsRow w.heap.size 5 1 v acc.length (byteCells acc) ∧ Below w.heap.size w wr ∧ Hid (fullQ (quoS false acc (s.data.toList.drop k)) = quotR s.data.toList))
      case atStart => exact ⟨1, [], Nat.le_refl _, by omega, by omega, rfl, by simp, World.ownsRow_nil _ _ _ _, Below.refl _ _, hq⟩
      case round =>
        obtain ⟨k, acc, hk1, hkg, hks, rfl, hacc, hown, hbel, HQ⟩ := hrel
        obtain ⟨ao, cap, rfl⟩ := slice_of_row hown
        have Own := hid hown
        have Hb := hid hbel
        have hbs := hbel.size
        clear hown hbel
        by_cases hlt : k < s.size
        · obtain ⟨c, hc⟩ : ∃ c, s[k]'hlt = c := ⟨_, rfl⟩
          have hcl := hid (show s.data.toList[k]? = some c by rw [← hc]; exact Lib.data_getElem? s k hlt)
          have c256 : (c.toNat : Int) < 256 := by have := c.toNat_lt; omega
          have hQ := HQ.out
          rw [drop_at hcl.out, quoS] at hQ
          have hki : (k : Int) < (s.size : Int) := by omega
          by_cases c34 : c = 34
          · rw [if_neg (by rw [c34]; decide), if_neg (by decide), if_pos c34] at hQ
            have f34 : ((c.toNat : Int) == 34) = true := by rw [c34]; rfl
            have hdl : (s.data.toList.drop (k + 1)).length = s.size - (k + 1) := by rw [List.length_drop, ← Lib.size_eq]
            have hsub : IntKind.i64.wrap ((s.size : Int) - 1) = (s.size : Int) - 1 := IntWalk.i64_in _ (by omega)
            by_cases hend : k + 1 = s.size
            · have fe : ((k : Int) == (s.size : Int) - 1) = true := by rw [beq_iff_eq]; omega
              have hfin := hid (show quotR s.data.toList = some acc by
                rw [← hQ]
                show (if s.data.toList.drop (k + 1) = [] then some acc else none) = _
                rw [if_pos (List.eq_nil_of_length_eq_zero (by omega))])
              clear hQ c34 hend hdl
              go_wp2_with (refine own_string rfl _ rfl w.heap.size _ _ rfl Own.out ?_)
              go_ret2
              exact ⟨⟨acc.toArray⟩, true, rfl, by rw [hfin.out]; simp, by rw [Lib.size_eq]; simp; omega, Hb.out⟩
            · have fe : ((k : Int) == (s.size : Int) - 1) = false := by rw [beq_eq_false_iff_ne]; omega
              have hfin := hid (show quotR s.data.toList = none by
                rw [← hQ]
                show (if s.data.toList.drop (k + 1) = [] then some acc else none) = _
                rw [if_neg (fun h => by rw [h] at hdl; simp at hdl; omega)])
              clear hQ c34 hend hdl
              go_wp2_with (refine own_string rfl _ rfl w.heap.size _ _ rfl Own.out ?_)
              go_ret2
              exact ⟨⟨acc.toArray⟩, false, rfl, by rw [hfin.out]; rfl, by rw [Lib.size_eq]; simp; omega, Hb.out⟩
          · have f34 : ((c.toNat : Int) == 34) = false := by rw [beq_eq_false_iff_ne]; intro e; exact c34 (UInt8.toNat.inj (by show c.toNat = 34; omega))
            by_cases c92 : c = 92
            · have f92 : ((c.toNat : Int) == 92) = true := by rw [c92]; rfl
              rw [if_neg (by rw [c92]; decide), if_neg (by decide), if_neg c34, if_pos c92] at hQ
              have hw1 : IntKind.i64.wrap ((k : Int) + 1) = (k : Int) + 1 := IntWalk.i64_in _ (by omega)
              by_cases hend : k + 1 = s.size
              · have fe : ((k : Int) + 1 == (s.size : Int)) = true := by rw [beq_iff_eq]; omega
                have hfin := hid (show quotR s.data.toList = none by
                  rw [← hQ, List.drop_eq_nil_of_le (by rw [← Lib.size_eq]; omega)]; rfl)
                clear hQ c34 c92 hend
                go_wp2
                go_ret2
                exact QuotP.no hfin.out Hb.out
              · have fe : ((k : Int) + 1 == (s.size : Int)) = false := by rw [beq_eq_false_iff_ne]; omega
                have hlt2 : k + 1 < s.size := by omega
                obtain ⟨d, hd⟩ : ∃ d, s[k + 1]'hlt2 = d := ⟨_, rfl⟩
                have hdl := hid (show s.data.toList[k + 1]? = some d by rw [← hd]; exact Lib.data_getElem? s (k + 1) hlt2)
                have d256 : (d.toNat : Int) < 256 := by have := d.toNat_lt; omega
                rw [drop_at hdl.out, quoS] at hQ
                have hki2 : ((k : Int) + 1) < (s.size : Int) := by omega
                have hkn : ((k : Int) + 1).toNat = k + 1 := by omega
                cases hcd : ctlB d with
                | true =>
                  rw [if_pos hcd] at hQ
                  have hfin := hid hQ.symm
                  have HC := hid (fun w => control_is d true hcd w)
                  clear hQ c34 c92 hend hcd
                  go_wp2_with fail
                  refine (HC.out _).mono ?_
                  rintro e w' ⟨rfl, rfl⟩
                  go_wp2
                  go_ret2
                  exact QuotP.no hfin.out Hb.out
                | false =>
                  rw [hcd, if_neg (by decide), if_pos rfl] at hQ
                  have HQ2 := hid hQ
                  have HC := hid (fun w => control_is d false hcd w)
                  clear hQ c34 c92 hend hcd
                  go_wp2_with fail
                  refine (HC.out _).mono ?_
                  rintro e w' ⟨rfl, rfl⟩
                  go_wp2_with (at_builtin; refine app1 rfl _ _ rfl rfl w.heap.size acc d (.slice ao acc.length cap) rfl Own.out rfl (by omega) hbs ?_; intro v' w5 happ)
                  have Happ := hid happ
                  clear happ
                  go_roundg (s.size - (k + 1))
                  case rel => exact ⟨k + 2, acc ++ [d], by omega, by omega, by omega, by go_num, by rw [List.length_append, List.length_singleton]; omega, Happ.out.1, Hb.out.trans (Happ.out.2.1.below (fun j hj => (Own.out.lt j hj).1) hbs), HQ2⟩
                  case measure => omega
            · have f92 : ((c.toNat : Int) == 92) = false := by rw [beq_eq_false_iff_ne]; intro e; exact c92 (UInt8.toNat.inj (by show c.toNat = 92; omega))
              have fe : ((k : Int) == (s.size : Int)) = false := by rw [beq_eq_false_iff_ne]; omega
              cases hcd : ctlB c with
              | true =>
                rw [if_pos hcd] at hQ
                have hfin := hid hQ.symm
                have HC := hid (fun w => control_is c true hcd w)
                clear hQ c34 c92 hcd
                go_wp2_with fail
                refine (HC.out _).mono ?_
                rintro e w' ⟨rfl, rfl⟩
                go_wp2
                go_ret2
                exact QuotP.no hfin.out Hb.out
              | false =>
                rw [hcd, if_neg (by decide), if_neg (by decide), if_neg c34, if_neg c92] at hQ
                have HQ2 := hid hQ
                have HC := hid (fun w => control_is c false hcd w)
                clear hQ c34 c92 hcd
                go_wp2_with fail
                refine (HC.out _).mono ?_
                rintro e w' ⟨rfl, rfl⟩
                go_wp2_with (at_builtin; refine app1 rfl _ _ rfl rfl w.heap.size acc c (.slice ao acc.length cap) rfl Own.out rfl (by omega) hbs ?_; intro v' w5 happ)
                have Happ := hid happ
                clear happ
                go_roundg (s.size - k)
                case rel => exact ⟨k + 1, acc ++ [c], by omega, by omega, by omega, by go_num, by rw [List.length_append, List.length_singleton]; omega, Happ.out.1, Hb.out.trans (Happ.out.2.1.below (fun j hj => (Own.out.lt j hj).1) hbs), HQ2⟩
                case measure => omega
        · have hQ := HQ.out
          rw [List.drop_eq_nil_of_le (by rw [← Lib.size_eq]; omega)] at hQ
          have hfin := hid (show quotR s.data.toList = none by rw [← hQ]; rfl)
          clear hQ
          go_wp2
          go_ret2
          exact QuotP.no hfin.out Hb.out
    · have e34 : ((d0.toNat : Int) != 34) = true := by simp; intro e; exact h34 (UInt8.toNat.inj (by show d0.toNat = 34; omega))
      have hq := hid (show quotR s.data.toList = none by
        have := drop_at hl0.out
        rw [List.drop_zero] at this
        rw [this]
        unfold quotR
        simp only
        rw [if_neg h34])
      clear h34
      go_enter Tryd.func46, Tryd.ntmps46
      go_wp2
      go_ret2
      exact QuotP.no hq.out (Below.refl _ _)
end Go.Proofs.YtnmdcbneoipllaaDoor
