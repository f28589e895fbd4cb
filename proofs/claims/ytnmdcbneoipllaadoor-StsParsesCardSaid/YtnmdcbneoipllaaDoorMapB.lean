/- A map from texts to bools that the call made itself: what was told. -/
import Derived.Test.YtnmdcbneoipllaaDoorProg
import Derived.Test.YtnmdcbneoipllaaDoorBase
import Derived.Maps.Own
import Derived.Maps.Views
namespace Go.Proofs.YtnmdcbneoipllaaDoor
open Go.RowKit Go.Lib Go.Maps

theorem plainElem_bool_inv {H : Type} {P : Program} {e : TypeId} (he : P.underlying e = some .bool) {v : Value} {z : DataW H × List MemPlace} (h : plainElem P e v = some z) : ∃ x, v = .bool x ∧ z = (.lit (.bool x), []) := by
  unfold plainElem at h
  rw [he] at h
  cases v <;> simp at h
  exact ⟨_, rfl, h.symm⟩
theorem keyLawS : Keyed Tryd.prog 9 := string_keyed Tryd.underlying9
theorem zeroB (w : World) : (zeroValue 4).run Tryd.prog w = .ok (.bool false) w := by kernel_rfl

/-- Block b is a map that holds true at just these texts. -/
def Told (w : World) (b : Nat) (told : List (List UInt8)) : Prop :=
  ∃ D : DataW Unit, w.ownsMap Tryd.prog 9 (plainElem Tryd.prog 4) b told.length D ∧ IsMap D ∧ ∀ s, D.atKey (.string s) (.lit (.bool false)) = .lit (.bool (told.contains s))
theorem Told.made (w : World) : Told (w.alloc (.map #[] 0)) w.heap.size [] :=
  ⟨.map [], World.ownsMap_made _ _ _ _, ⟨_, rfl⟩, fun _ => rfl⟩
theorem Told.lt {w : World} {b : Nat} {told : List (List UInt8)} (h : Told w b told) : b < w.heap.size := by
  obtain ⟨D, h, _⟩ := h; exact h.lt
theorem Told.kept {w w' : World} {b : Nat} {told : List (List UInt8)} (h : Told w b told) (hb : w'.heap[b]? = w.heap[b]?) : Told w' b told := by
  obtain ⟨D, ⟨es, clock, h1, h2⟩, h3⟩ := h
  exact ⟨D, ⟨es, clock, hb.trans h1, h2⟩, h3⟩
set_option maxRecDepth 100000 in
theorem Told.look {w : World} {b : Nat} {told : List (List UInt8)} (h : Told w b told) (s : ByteArray) (hs : s.size ≤ maxLen) (c : Bool) (hc : told.contains s.data.toList = c) :
    (Instr.lookup 48 (.map (some b)) (.string s) false).run Tryd.prog w = .ok (.bool c) w := by
  obtain ⟨D, h1, h2, h3⟩ := h
  obtain ⟨v, ps, hrun, hv⟩ := h1.lookup keyLawS Tryd.underlying48 (zeroB w) (plainElem_bool Tryd.underlying4 false) (Go.WideMaps.keyOf_string_mk Tryd.underlying9 hs)
  obtain ⟨x, rfl, hx⟩ := plainElem_bool_inv Tryd.underlying4 hv
  rw [hrun]
  have := congrArg Prod.fst hx
  simp only at this
  rw [h3, hc] at this
  injection this with this
  injection this with this
  rw [this]
theorem Told.update {w : World} {b : Nat} {told : List (List UInt8)} (h : Told w b told) (hn : told.length < maxLen) (s : ByteArray) (hs : s.size ≤ maxLen) :
    ∃ w', (Instr.mapUpdate 48 (.map (some b)) (.string s) (.bool true)).run Tryd.prog w = .ok () w' ∧ Told w' b (s.data.toList :: told) ∧ w.grownBy w' (some b) := by
  obtain ⟨D, h1, h2, h3⟩ := h
  obtain ⟨w', hrun, r1, r2⟩ := h1.update keyLawS Tryd.underlying48 hn (Go.WideMaps.keyOf_string_mk Tryd.underlying9 hs) (plainElem_bool Tryd.underlying4 true)
  refine ⟨w', hrun, ⟨_, r1, ?_, fun t => ?_⟩, r2⟩
  · obtain ⟨es, rfl⟩ := h2; exact ⟨_, rfl⟩
  · by_cases ht : t = s.data.toList
    · subst ht
      rw [atKey_put_same h2 (by trivial)]
      simp
    · rw [atKey_put_other (by intro e; injection e with e; exact ht e), h3]
      have : (s.data.toList :: told).contains t = told.contains t := by
        rw [List.contains_cons]
        have : (t == s.data.toList) = false := by rw [beq_eq_false_iff_ne]; exact ht
        rw [this]; rfl
      rw [this]
end Go.Proofs.YtnmdcbneoipllaaDoor
