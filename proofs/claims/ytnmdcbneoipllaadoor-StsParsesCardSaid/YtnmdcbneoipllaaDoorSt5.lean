/- Walks: sts' reader: quoted, value. -/
import Derived.Test.YtnmdcbneoipllaaDoorSt4
import Derived.Test.YtnmdcbneoipllaaDoorApp
namespace Go.Proofs.YtnmdcbneoipllaaDoor
open Go.RowKit Go.Lib Go.Proofs.Foot

/-- A row of the call's own lies beside what a reader's method turns. -/
theorem Rdd.own {g : Nat} {w w' : World} {t : ByteArray} {base : Nat} {e : TypeId} {size : Nat} {v : Value} {n : Nat} {xs : List Value} (h : Rdd g w t w') (hg : g < base) (ho : w.ownsRow base e size v n xs) : w'.ownsRow base e size v n xs :=
  h.2.own ho (fun k hk e => by have := (ho.lt k hk).1; omega)
theorem Rdd.app {g base : Nat} {w w1 w2 : World} {t : ByteArray} {l m : List UInt8} {v v' : Value} (h : Rdd g w t w1) (hg : g < base) (hb : base ≤ w.heap.size) (hw : w.heap.size ≤ base) (ho : w1.ownsRow base 5 1 v l.length (byteCells l)) (ha : Appd base l m v w1 v' w2) : Rdd g w t w2 :=
  have h2 : Touch (· = g) w w2 := h.2.trans ha.2.1 (fun k hk hv => by have := (ho.lt k hv).1; omega)
  ⟨((ha.2.1.block g h.1.lt (fun hv => by have := (ho.lt g hv).1; omega))).trans h.1, h2⟩

set_option maxHeartbeats 1000000 in
set_option maxRecDepth 100000 in
theorem quoted_any (g : Nat) (s : ByteArray) (hs : s.size ≤ 16777216) (w : World) (h : Rd w g s) :
    Calls Tryd.prog 40 #[.pointer (some ⟨g, 0, none⟩)] w fun e w' =>
      match quoS false [] s.data.toList with
      | some (v, r) => ∃ V R : ByteArray, V.data.toList = v ∧ R.data.toList = r ∧ e = .returned (.string V) ∧ Rdd g w R w'
      | none => e = .panicked [pan] ∧ ∃ R, Rdd g w R w' := by
  obtain ⟨res, hres⟩ : ∃ r, r = quoS false [] s.data.toList := ⟨_, rfl⟩
  rw [← hres]
  have hg := h.lt
  have H := hid h
  clear h
  go_enter Tryd.func40, Tryd.ntmps40
  go_wp2
  go_loopg [3] s.size (fun k v wr => ∃ (S : ByteArray) (acc : List UInt8), S.size = k ∧ acc.length + k ≤ s.size ∧ quoS false acc S.data.toList = res ∧ wr.ownsRow w.heap.size 5 1 v acc.length (byteCells acc) ∧ Rdd g w S wr)
  case atStart => exact ⟨s, [], rfl, by simp, hres.symm, World.ownsRow_nil _ _ _ _, Rdd.refl H.out⟩
  case round =>
    obtain ⟨S, acc, hk, hacc, hq, hown, hrd⟩ := hrel
    have hSs : S.size ≤ 16777216 := by omega
    obtain ⟨ao, cap, rfl⟩ := slice_of_row hown
    cases hl : S.data.toList with
    | nil =>
      rw [hl, quoS] at hq
      subst hq
      have HN := hid (next_nil g S hl _ hrd.1)
      have Hrd := hid hrd
      clear hl hown hrd
      go_wp2_with fail
      refine HN.out.mono ?_
      rintro e w' ⟨rfl, rfl⟩
      exact ⟨rfl, rfl, _, Hrd.out⟩
    | cons c l =>
      rw [hl, quoS] at hq
      have hz : S.size = l.length + 1 := by rw [Lib.size_eq, hl]; rfl
      cases hc : ctlB c with
      | true =>
        rw [hc] at hq
        simp at hq
        subst hq
        have HN := hid (next_bad g S c l hl hc _ hrd.1)
        have Hrd := hid hrd
        clear hl hown hrd hc
        go_wp2_with fail
        refine HN.out.mono ?_
        rintro e w' ⟨rfl, rfl⟩
        exact ⟨rfl, rfl, _, Hrd.out⟩
      | false =>
        rw [hc] at hq
        simp only [Bool.false_eq_true, if_false] at hq
        have HN := hid (next_ok g S c l hl hc hSs _ hrd.1)
        have Hrd := hid hrd
        have Hown := hid hown
        clear hl hown hrd hc
        by_cases h34 : c = 34
        · subst h34
          rw [if_pos rfl] at hq
          subst hq
          go_wp2_with fail
          refine HN.out.mono ?_
          rintro e w1 ⟨R, hR, rfl, hr1⟩
          have R1 := hid (Hrd.out.trans hr1)
          have Own1 := hid (hr1.own hg Hown.out)
          have HR := hid hR
          clear hr1 hR
          go_wp2_with (refine own_string rfl _ rfl w.heap.size _ _ rfl Own1.out ?_)
          go_ret
          first
            | exact ⟨_, by simp, R, HR.out, rfl, R1.out⟩
            | exact ⟨⟨acc.toArray⟩, R, by simp, HR.out, rfl, R1.out⟩
        · rw [if_neg h34] at hq
          have n34 : ((c.toNat : Int) == 34) = false := by
            rw [beq_eq_false_iff_ne]; intro e; exact h34 (UInt8.toNat_inj.1 (by show c.toNat = 34; omega))
          have hbs := Hrd.out.2.size
          by_cases h92 : c = 92
          · subst h92
            rw [if_pos rfl] at hq
            clear n34 h34
            go_wp2_with fail
            refine HN.out.mono ?_
            rintro e w1 ⟨R, hR, rfl, hr1⟩
            have R1 := hid (Hrd.out.trans hr1)
            have Own1 := hid (hr1.own hg Hown.out)
            have hb1 := R1.out.2.size
            cases l with
            | nil =>
              rw [quoS] at hq
              subst hq
              have HN2 := hid (next_nil g R hR _ hr1.1)
              clear hr1 hR HN
              go_wp2_with fail
              refine HN2.out.mono ?_
              rintro e w' ⟨rfl, rfl⟩
              exact ⟨rfl, rfl, _, R1.out⟩
            | cons d l =>
              rw [quoS] at hq
              have hRz : R.size = l.length + 1 := by rw [Lib.size_eq, hR]; rfl
              have hRs : R.size ≤ 16777216 := by simp at hz; omega
              cases hd : ctlB d with
              | true =>
                rw [hd] at hq
                simp at hq
                subst hq
                have HN2 := hid (next_bad g R d l hR hd _ hr1.1)
                clear hr1 hR HN hd
                go_wp2_with fail
                refine HN2.out.mono ?_
                rintro e w' ⟨rfl, rfl⟩
                exact ⟨rfl, rfl, _, R1.out⟩
              | false =>
                rw [hd] at hq
                simp only [Bool.false_eq_true, if_false, if_true] at hq
                have HN2 := hid (next_ok g R d l hR hd hRs _ hr1.1)
                have Hq := hid hq
                clear hr1 hR HN hd hq
                go_wp2_with fail
                refine HN2.out.mono ?_
                rintro e w2 ⟨R', hR', rfl, hr2⟩
                have R2 := hid (R1.out.trans hr2)
                have Own2 := hid (hr2.own hg Own1.out)
                have HR' := hid hR'
                have hb2 := R2.out.2.size
                clear hr2 hR' hbs hb1
                go_wp2_with (at_builtin; refine app1 rfl _ _ rfl rfl w.heap.size acc d (.slice ao acc.length cap) rfl Own2.out rfl (by omega) hb2 ?_; intro v' w5 happ)
                have Happ := hid happ
                clear happ
                go_roundg R'.size
                case rel => exact ⟨R', acc ++ [d], rfl, by have := congrArg List.length HR'.out; rw [← Lib.size_eq] at this; simp at hz ⊢; omega, by rw [HR'.out]; exact Hq.out, Happ.out.1, R2.out.app hg (Nat.le_refl _) (Nat.le_refl _) Own2.out Happ.out⟩
                case measure => have := congrArg List.length HR'.out; rw [← Lib.size_eq] at this; simp at hz; omega
          · rw [if_neg h92] at hq
            have n92 : ((c.toNat : Int) == 92) = false := by
              rw [beq_eq_false_iff_ne]; intro e; exact h92 (UInt8.toNat_inj.1 (by show c.toNat = 92; omega))
            have Hq := hid hq
            clear hq h34 h92
            go_wp2_with fail
            refine HN.out.mono ?_
            rintro e w1 ⟨R, hR, rfl, hr1⟩
            have R1 := hid (Hrd.out.trans hr1)
            have Own1 := hid (hr1.own hg Hown.out)
            have HR := hid hR
            have hb1 := R1.out.2.size
            clear hr1 hR hbs HN
            go_wp2_with (at_builtin; refine app1 rfl _ _ rfl rfl w.heap.size acc c (.slice ao acc.length cap) rfl Own1.out rfl (by omega) hb1 ?_; intro v' w5 happ)
            have Happ := hid happ
            clear happ
            go_roundg R.size
            case rel => exact ⟨R, acc ++ [c], rfl, by have := congrArg List.length HR.out; rw [← Lib.size_eq] at this; simp; omega, by rw [HR.out]; exact Hq.out, Happ.out.1, R1.out.app hg (Nat.le_refl _) (Nat.le_refl _) Own1.out Happ.out⟩
            case measure => have := congrArg List.length HR.out; rw [← Lib.size_eq] at this; omega
end Go.Proofs.YtnmdcbneoipllaaDoor
