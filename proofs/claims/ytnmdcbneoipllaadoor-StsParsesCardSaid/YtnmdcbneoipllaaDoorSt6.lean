/- Walk: sts' reader: value. -/
import Derived.Test.YtnmdcbneoipllaaDoorSt5
namespace Go.Proofs.YtnmdcbneoipllaaDoor
open Go.RowKit Go.Lib Go.Proofs.Foot

theorem trimL_trimL (l : List UInt8) : trimL (trimL l) = trimL l := by
  induction l with
  | nil => rfl
  | cons c l ih =>
    unfold trimL at ih ⊢
    rw [List.dropWhile_cons]
    cases hc : blankB c with
    | true => simpa [hc] using ih
    | false => simp [hc]
theorem wordS_trimL (l : List UInt8) : wordS (trimL l) = wordS l := by unfold wordS; rw [trimL_trimL]
theorem atS_trimL (c : UInt8) (l : List UInt8) : atS c (trimL l) = atS c l := by unfold atS; rw [trimL_trimL]
theorem trimL_suffix (l : List UInt8) : ∃ p, l = p ++ trimL l := ⟨l.takeWhile blankB, (List.takeWhile_append_dropWhile).symm⟩
theorem atS_suffix {c : UInt8} {l r : List UInt8} (h : atS c l = some r) : ∃ p, l = p ++ r := by
  obtain ⟨p, hp⟩ := trimL_suffix l
  unfold atS at h
  split at h
  · cases h
  · rename_i d t ht
    split at h
    · injection h with h
      exact ⟨p ++ [d], by rw [hp, ht, h]; simp⟩
    · cases h
/-- What a method leaves that hands back a text. -/
def WordR (g : Nat) (w : World) (o : Option (List UInt8 × List UInt8)) (e : Ending) (w' : World) : Prop := match o with
  | some (v, r) => ∃ V R : ByteArray, V.data.toList = v ∧ R.data.toList = r ∧ e = .returned (.string V) ∧ Rdd g w R w'
  | none => e = .panicked [pan] ∧ ∃ R, Rdd g w R w'
theorem wordR_some {g : Nat} {w : World} {o : Option (List UInt8 × List UInt8)} {v r : List UInt8} (ho : o = some (v, r)) {V R : ByteArray} (hV : V.data.toList = v) (hR : R.data.toList = r) {w' : World} (h : Rdd g w R w') : WordR g w o (.returned (.string V)) w' := by
  rw [ho]; exact ⟨V, R, hV, hR, rfl, h⟩
theorem wordR_none {g : Nat} {w : World} {o : Option (List UInt8 × List UInt8)} (ho : o = none) {R : ByteArray} {w' : World} (h : Rdd g w R w') : WordR g w o (.panicked [pan]) w' := by
  rw [ho]; exact ⟨rfl, R, h⟩
set_option maxRecDepth 100000 in
theorem value_any (g : Nat) (s : ByteArray) (hs : s.size ≤ 16777216) (ha : Asc s.data.toList) (w : World) (h : Rd w g s) :
    Calls Tryd.prog 28 #[.pointer (some ⟨g, 0, none⟩)] w (WordR g w (valS s.data.toList)) := by
  have HA := hid (at_any g 34 s hs w h)
  clear h
  cases hq : atS 34 s.data.toList with
  | some r =>
    have ev : valS s.data.toList = quoS false [] r := by unfold valS; rw [hq]
    rw [ev]
    have hlen := atS_len hq
    rw [← Lib.size_eq] at hlen
    rw [hq] at HA
    clear hq ev
    go_enter Tryd.func28, Tryd.ntmps28
    go_wp2_with fail
    refine HA.out.mono ?_
    rintro e w1 ⟨T, hT, rfl, hr1⟩
    have hTl : T.data.toList = r := hT
    have hTs : T.size ≤ 16777216 := by rw [Lib.size_eq, hTl]; omega
    have HQ : Hid (Calls Tryd.prog 40 #[.pointer (some ⟨g, 0, none⟩)] w1 (WordR g w1 (quoS false [] T.data.toList))) := hid (quoted_any g T hTs w1 hr1.1)
    rw [hTl] at HQ
    have R1 := hid hr1
    clear hr1 hT hTl HA
    go_wp2_with fail
    refine HQ.out.mono ?_
    intro e w2 h2
    cases hv : quoS false [] r with
    | some p =>
      obtain ⟨v, r'⟩ := p
      rw [hv] at h2
      obtain ⟨V, R, hV, hR, rfl, hr2⟩ := h2
      have R2 := hid (R1.out.trans hr2)
      have Hv := hid hv
      clear hr2 HQ hv
      go_wp2
      go_ret
      exact wordR_some Hv.out hV hR R2.out
    | none =>
      rw [hv] at h2
      obtain ⟨rfl, R, hr2⟩ := h2
      exact ⟨rfl, wordR_none rfl (R1.out.trans hr2)⟩
  | none =>
    have ev : valS s.data.toList = wordS (trimL s.data.toList) := by unfold valS; rw [hq, wordS_trimL]
    rw [ev]
    have hlen := trimL_len s.data.toList
    rw [← Lib.size_eq] at hlen
    have haT : Asc (trimL s.data.toList) := ha.of_suffix (trimL_suffix _)
    rw [hq] at HA
    clear hq ev ha
    go_enter Tryd.func28, Tryd.ntmps28
    go_wp2_with fail
    refine HA.out.mono ?_
    rintro e w1 ⟨T, hT, rfl, hr1⟩
    have hTl : T.data.toList = trimL s.data.toList := hT
    have hTs : T.size ≤ 16777216 := by rw [Lib.size_eq, hTl]; omega
    have HQ : Hid (Calls Tryd.prog 26 #[.pointer (some ⟨g, 0, none⟩)] w1 (WordR g w1 (wordS T.data.toList))) := hid (word_any g T hTs (by rw [hTl]; exact haT) w1 hr1.1)
    rw [hTl] at HQ
    have R1 := hid hr1
    clear hr1 hT hTl HA
    go_wp2_with fail
    refine HQ.out.mono ?_
    intro e w2 h2
    cases hv : wordS (trimL s.data.toList) with
    | some p =>
      obtain ⟨v, r'⟩ := p
      rw [hv] at h2
      obtain ⟨V, R, hV, hR, rfl, hr2⟩ := h2
      have R2 := hid (R1.out.trans hr2)
      have Hv := hid hv
      clear hr2 HQ hv
      go_wp2
      go_ret
      exact wordR_some Hv.out hV hR R2.out
    | none =>
      rw [hv] at h2
      obtain ⟨rfl, R, hr2⟩ := h2
      exact ⟨rfl, wordR_none rfl (R1.out.trans hr2)⟩
end Go.Proofs.YtnmdcbneoipllaaDoor
