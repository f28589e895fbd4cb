/- Walk: the reference's parts of a text, at a byte (chapter 04). -/
import Derived.Test.YtiookngmgednjaaDoorAd13
namespace Go.Proofs.YtiookngmgednjaaDoor
open Go.RowKit Go.Lib Go.Proofs.Foot

/-- What stands while the parts are gathered: the parts so far, and no such byte since f. -/
def PartsAt (a : UInt8) (l : List UInt8) (ps : List ByteArray) (f k : Nat) : Prop := (∀ t ∈ ps, t.size ≤ 16777216) ∧ ps.length ≤ k ∧
  ((k ≤ l.length ∧ f ≤ k ∧ cutAt a l = ps.map (·.data.toList) ++ cutAt a (l.drop f) ∧ a ∉ (l.drop f).take (k - f)) ∨ (k = l.length + 1 ∧ cutAt a l = ps.map (·.data.toList)))
theorem PartsAt.start (a : UInt8) (l : List UInt8) : PartsAt a l [] 0 0 := ⟨by simp, Nat.le_refl _, .inl ⟨Nat.zero_le _, Nat.le_refl _, by simp, by simp⟩⟩
theorem drop_split {l : List UInt8} {f k : Nat} (hf : f ≤ k) (hk : k < l.length) : l.drop f = (l.drop f).take (k - f) ++ l[k] :: l.drop (k + 1) := by
  have h1 : l.drop k = l[k] :: l.drop (k + 1) := List.drop_eq_getElem_cons hk
  have h2 := List.take_append_drop (k - f) (l.drop f)
  rw [List.drop_drop, show f + (k - f) = k from by omega, h1] at h2
  exact h2.symm
theorem PartsAt.skip {a : UInt8} {l : List UInt8} {ps : List ByteArray} {f k : Nat} (h : PartsAt a l ps f k) (hk : k < l.length) (hc : l[k] ≠ a) : PartsAt a l ps f (k + 1) := by
  obtain ⟨h1, h2, h3⟩ := h
  rcases h3 with ⟨_, hf, he, hn⟩ | ⟨h, _⟩
  · refine ⟨h1, by omega, .inl ⟨by omega, by omega, he, ?_⟩⟩
    have e : (l.drop f).take (k + 1 - f) = (l.drop f).take (k - f) ++ [l[k]] := by
      have hl : k - f < (l.drop f).length := by rw [List.length_drop]; omega
      rw [show k + 1 - f = k - f + 1 from by omega, List.take_succ_eq_append_getElem hl]
      congr 2
      rw [List.getElem_drop]
      congr 1; omega
    rw [e, List.mem_append]
    rintro (h | h)
    · exact hn h
    · exact hc (List.mem_singleton.1 h).symm
  · omega
theorem PartsAt.cut {a : UInt8} {l : List UInt8} {ps : List ByteArray} {f k : Nat} (h : PartsAt a l ps f k) (hk : k < l.length) (hc : l[k] = a) {t : ByteArray} (ht : t.data.toList = (l.drop f).take (k - f)) (hz : t.size ≤ 16777216) : PartsAt a l (ps ++ [t]) (k + 1) (k + 1) := by
  obtain ⟨h1, h2, h3⟩ := h
  rcases h3 with ⟨_, hf, he, hn⟩ | ⟨h, _⟩
  · refine ⟨fun x hx => ?_, by simp; omega, .inl ⟨by omega, Nat.le_refl _, ?_, by simp⟩⟩
    · rcases List.mem_append.1 hx with h | h
      · exact h1 x h
      · rw [List.mem_singleton.1 h]; exact hz
    · have hs := drop_split hf hk
      rw [hc] at hs
      rw [he, hs, cutAt_at hn, ← ht]
      simp
  · omega
theorem PartsAt.last {a : UInt8} {l : List UInt8} {ps : List ByteArray} {f k : Nat} (h : PartsAt a l ps f k) (hk : k = l.length) {t : ByteArray} (ht : t.data.toList = (l.drop f).take (k - f)) (hz : t.size ≤ 16777216) : PartsAt a l (ps ++ [t]) (k + 1) (k + 1) := by
  obtain ⟨h1, h2, h3⟩ := h
  rcases h3 with ⟨_, hf, he, hn⟩ | ⟨h, _⟩
  · refine ⟨fun x hx => ?_, by simp; omega, .inr ⟨by omega, ?_⟩⟩
    · rcases List.mem_append.1 hx with h | h
      · exact h1 x h
      · rw [List.mem_singleton.1 h]; exact hz
    · have e : (l.drop f).take (k - f) = l.drop f := List.take_of_length_le (by rw [List.length_drop]; omega)
      rw [e] at hn ht
      rw [he, cutAt_free hn, ← ht]
      simp
  · omega
theorem PartsAt.fin {a : UInt8} {l : List UInt8} {ps : List ByteArray} {f k : Nat} (h : PartsAt a l ps f k) (hk : l.length < k) : ps.map (·.data.toList) = cutAt a l := by
  obtain ⟨h1, h2, h3⟩ := h
  rcases h3 with ⟨h, _⟩ | ⟨_, he⟩
  · omega
  · exact he.symm
theorem PartsAt.from_le {a : UInt8} {l : List UInt8} {ps : List ByteArray} {f k : Nat} (h : PartsAt a l ps f k) (hk : k ≤ l.length) : f ≤ k := by
  obtain ⟨h1, h2, h3⟩ := h
  rcases h3 with ⟨_, hf, _⟩ | ⟨h, _⟩
  · exact hf
  · omega
/-- The parts lie in a row of the call's own. -/
def PartsRet (a : UInt8) (s : ByteArray) (w : World) (e : Ending) (w' : World) : Prop := ∃ (L : List ByteArray) (g cap : Nat), L.map (·.data.toList) = cutAt a s.data.toList ∧ 1 ≤ L.length ∧ (∀ t ∈ L, t.size ≤ 16777216) ∧ L.length ≤ s.size + 1 ∧ e = .returned (.slice (some ⟨g, 0, none⟩) L.length cap) ∧ L.length ≤ cap ∧ TextsAt w' g 0 L ∧ w.heap.size ≤ g ∧ g < w'.heap.size ∧ Below w.heap.size w w'
set_option maxHeartbeats 2000000 in
set_option maxRecDepth 100000 in
theorem partsR_any (s : ByteArray) (a : UInt8) (w : World) (hs : s.size ≤ 4194304) :
    Calls Tryd.prog 28 #[.string s, .int .u8 a.toNat] w (PartsRet a s w) := by
  have hsl : s.data.toList.length = s.size := (Lib.size_eq s).symm
  have Hsl := hid hsl
  clear hsl
  go_enter Tryd.func28, Tryd.ntmps28
  go_wp2
  go_loopw [5, 6, 7] (fun lv fv iv wr => ∃ (k f : Nat) (ps : List ByteArray), k ≤ s.size + 1 ∧ iv = .int .i64 k ∧ fv = .int .i64 f ∧ ps.length ≤ k ∧ Hid (wr.ownsRow w.heap.size 9 1 lv ps.length (ps.map Value.string) ∧ Below w.heap.size w wr ∧ PartsAt a s.data.toList ps f k)) (fun _ _ iv _ => s.size + 1 - (RowKit.intOf iv).toNat)
  case atStart => exact ⟨0, 0, [], Nat.zero_le _, rfl, rfl, Nat.le_refl _, hid ⟨World.ownsRow_nil _ _ _ _, Below.refl _ _, PartsAt.start a _⟩⟩
  case round =>
    obtain ⟨k, f, ps, hk, rfl, rfl, hps, hh⟩ := hrel
    obtain ⟨hown, hbel, hpa⟩ := hh.out
    obtain ⟨ao, cap, hvs⟩ := slice_of_rowS hown
    have Own := hid hown
    have Hb := hid hbel
    have Hpa := hid hpa
    by_cases hle : k ≤ s.size
    · have hfk := hpa.from_le (by rw [Hsl.out]; exact hle)
      have hsz : w.heap.size ≤ wr.heap.size := hbel.size
      subst hvs
      have i1 : (k : Int) ≤ (s.size : Int) := by omega
      by_cases hlt : k < s.size
      · have hl : k < s.data.toList.length := by rw [Hsl.out]; exact hlt
        obtain ⟨c, hc⟩ : ∃ c, s[k]'hlt = c := ⟨_, rfl⟩
        have hcl : s.data.toList[k]'hl = c := hc
        have i2 : ((k : Int) == (s.size : Int)) = false := by rw [beq_eq_false_iff_ne]; omega
        by_cases hca : c = a
        · have i3 : ((c.toNat : Int) == (a.toNat : Int)) = true := by rw [hca]; exact beq_self_eq_true _
          have htl : (s.extract f k).data.toList = (s.data.toList.drop f).take (k - f) := by rw [extract_eq]
          have htz : (s.extract f k).size ≤ 16777216 := by rw [Lib.size_eq, htl, List.length_take]; omega
          have Hpn := hid (hpa.cut hl (by rw [hcl, hca]) htl htz)
          have Hc := hid hcl
          clear hh hown hbel hpa hca htl hcl htz
          go_wp2_with (at_builtin; refine appS1 rfl _ _ rfl rfl w.heap.size ps (s.extract f k) (.slice ao ps.length cap) rfl Own.out rfl (by omega) hsz ?_; intro v' w5 happ)
          have Happ := hid happ
          clear happ
          refine ⟨⟨k + 1, k + 1, ps ++ [s.extract f k], by omega, by go_num, by go_num, by simp; omega, hid ⟨Happ.out.1, Happ.out.below Own.out Hb.out (Nat.le_refl _), Hpn.out⟩⟩, ?_⟩
          simp only [RowKit.intOf]; omega
        · have i3 : ((c.toNat : Int) == (a.toNat : Int)) = false := by
            rw [beq_eq_false_iff_ne]; intro h; exact hca (UInt8.toNat.inj (by omega))
          have Hpn := hid (hpa.skip hl (by rw [hcl]; exact hca))
          have Hc := hid hcl
          clear hh hown hbel hpa hca hcl
          go_wp2
          refine ⟨⟨k + 1, f, ps, by omega, by go_num, rfl, by omega, hid ⟨Own.out, Hb.out, Hpn.out⟩⟩, ?_⟩
          simp only [RowKit.intOf]; omega
      · have hks : k = s.size := by omega
        have i2 : ((k : Int) == (s.size : Int)) = true := by rw [beq_iff_eq]; omega
        have htl : (s.extract f k).data.toList = (s.data.toList.drop f).take (k - f) := by rw [extract_eq]
        have htz : (s.extract f k).size ≤ 16777216 := by rw [Lib.size_eq, htl, List.length_take]; omega
        have Hpn := hid (hpa.last (by rw [Hsl.out]; exact hks) htl htz)
        have Hks := hid hks
        clear hh hown hbel hpa htl htz hks
        go_wp2_with (at_builtin; refine appS1 rfl _ _ rfl rfl w.heap.size ps (s.extract f k) (.slice ao ps.length cap) rfl Own.out rfl (by omega) hsz ?_; intro v' w5 happ)
        have Happ := hid happ
        clear happ
        refine ⟨⟨k + 1, k + 1, ps ++ [s.extract f k], by omega, by go_num, by go_num, by simp; omega, hid ⟨Happ.out.1, Happ.out.below Own.out Hb.out (Nat.le_refl _), Hpn.out⟩⟩, ?_⟩
        simp only [RowKit.intOf]; omega
    · have hgt : s.data.toList.length < k := by rw [Hsl.out]; omega
      have hfin := hpa.fin hgt
      have i1 : ¬ (k : Int) ≤ (s.size : Int) := by omega
      have hne : 1 ≤ ps.length := by
        have := congrArg List.length hfin
        rw [List.length_map, cutAt_length] at this; omega
      obtain ⟨g, cap2, rfl, hg1, hg2, hg3, hTx⟩ := row_texts hown hne
      have Hfin : Hid (PartsRet a s w (.returned (.slice (some ⟨g, 0, none⟩) ps.length cap2)) wr) := hid ⟨ps, g, cap2, hfin, hne, hpa.1, by omega, rfl, hg3, hTx, hg1, hg2, hbel⟩
      clear hh hown hbel hpa hfin hTx hvs Own Hb Hpa
      go_wp2
      go_ret
      exact Hfin.out
end Go.Proofs.YtiookngmgednjaaDoor
