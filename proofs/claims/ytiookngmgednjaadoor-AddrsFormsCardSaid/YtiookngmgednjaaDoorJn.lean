/- strings.Join of a stretch of a row of texts that the call owns. -/
import Derived.Test.YtiookngmgednjaaDoorAd3
namespace Go.Proofs.YtiookngmgednjaaDoor
open Go.RowKit Go.Lib

/-- The texts l lie in block g from cell o on. -/
def TextsAt (w : World) (g o : Nat) (l : List ByteArray) : Prop := ∀ (j : Nat) x, l[j]? = some x → w.cell? ⟨g, o + j, none⟩ = some (.string x)
theorem TextsAt.below {w w' : World} {g o : Nat} {l : List ByteArray} {B : Nat} (h : TextsAt w g o l) (hb : Below B w w') (hg : g < B) : TextsAt w' g o l :=
  fun j x hj => (hb.cell hg).trans (h j x hj)
theorem TextsAt.drop {w : World} {g o : Nat} {l : List ByteArray} (h : TextsAt w g o l) (k : Nat) : TextsAt w g (o + k) (l.drop k) := fun j x hj => by
  rw [Nat.add_assoc]
  exact h (k + j) x (by simpa using hj)
theorem TextsAt.take {w : World} {g o : Nat} {l : List ByteArray} (h : TextsAt w g o l) (k : Nat) : TextsAt w g o (l.take k) := fun j x hj => by
  have h1 := (List.getElem?_eq_some_iff.1 hj).1
  rw [List.length_take] at h1
  rw [List.getElem?_take_of_lt (by omega)] at hj
  exact h j x hj
theorem row_texts {w : World} {base : Nat} {v : Value} {l : List ByteArray} (hown : w.ownsRow base 9 1 v l.length (l.map Value.string)) (h0 : 0 < l.length) :
    ∃ g cap, v = .slice (some ⟨g, 0, none⟩) l.length cap ∧ base ≤ g ∧ g < w.heap.size ∧ l.length ≤ cap ∧ TextsAt w g 0 l := by
  rcases hown.2 with ⟨rfl, h⟩ | ⟨g, cap, cur, rfl, hb, hg, hnc, hcm, hcs, htake⟩
  · omega
  · refine ⟨g, cap, rfl, hb, lt_of_heap hg, hnc, fun j x hj => ?_⟩
    rw [Nat.zero_add, hown.cellAt j (by have := (List.getElem?_eq_some_iff.1 hj).1; omega)]
    simp [hj]
theorem join_short {l : List ByteArray} {sep : ByteArray} (hl : l.length ≤ 16) (hs : ∀ t ∈ l, t.size ≤ 65536) (hsep : sep.size ≤ 4) : (Lib.join (l.map (·.data.toList)) sep.data.toList).length ≤ 2000000 := by
  cases l with
  | nil => simp [Lib.join]
  | cons x r =>
    rw [List.map_cons, Lib.join_length]
    have := lens_le 65536 ((x :: r).map (·.data.toList)) (fun t ht => by
      obtain ⟨u, hu, rfl⟩ := List.mem_map.1 ht
      have := hs u hu
      rw [Lib.size_eq] at this; exact this)
    rw [List.map_cons, List.length_cons, List.length_map] at this
    rw [List.length_map]
    rw [Lib.size_eq] at hsep
    rw [List.length_cons] at hl
    have h3 : sep.data.toList.length * r.length ≤ 4 * 16 := Nat.mul_le_mul hsep (by omega)
    have h4 : (r.length + 1) * 65536 ≤ 16 * 65536 := Nat.mul_le_mul hl (Nat.le_refl _)
    omega
theorem joinAt {w : World} {g o c : Nat} {l : List ByteArray} (h : TextsAt w g o l) (hg : g < w.heap.size) (hc : l.length ≤ c) (hl : l.length ≤ 16) (hs : ∀ t ∈ l, t.size ≤ 65536) (sep : ByteArray) (hsep : sep.size ≤ 4) :
    Calls Tryd.prog 22 #[.slice (some ⟨g, o, none⟩) l.length c, .string sep] w fun e w' => e = .returned (.string ⟨(Lib.join (l.map (·.data.toList)) sep.data.toList).toArray⟩) ∧ Below w.heap.size w w' :=
  Tryd.strings_Join g o c l sep w h hg (by omega) hc (by have := join_short hl hs hsep; omega)
/-- l[:b] of a row. -/
theorem slice_to {g n cap b : Nat} (hb : b ≤ cap) : ∀ V, (Instr.slice 45 (.slice (some ⟨g, 0, none⟩) n cap) none (some (.int .i64 (b : Int))) none).run Tryd.prog V = .ok (.slice (some ⟨g, 0, none⟩) b cap) V := fun V => by
  rw [run_slice_h V 45 (some ⟨g, 0, none⟩) n cap (by kernel_rfl) .i64 (b : Int) (by omega) (by omega)]
  have hz : (sizeOf (Tryd.prog.elem 45)).run Tryd.prog V = .ok 1 V := by kernel_rfl
  rw [hz]
  show Result.ok (sliced (some ⟨g, 0, none⟩) 0 (b : Int).toNat cap 1) V = _
  simp [sliced, Addr.add]
/-- Where l[a:] begins. -/
def fromAt (g cap a : Nat) : Addr := if cap = a then ⟨g, 0, none⟩ else ⟨g, a, none⟩
theorem slice_from {g n cap a : Nat} (ha : a ≤ n) : ∀ V, (Instr.slice 45 (.slice (some ⟨g, 0, none⟩) n cap) (some (.int .i64 (a : Int))) none none).run Tryd.prog V = .ok (.slice (some (fromAt g cap a)) (n - a) (cap - a)) V := fun V => by
  rw [run_slice_l V 45 (some ⟨g, 0, none⟩) n cap (by kernel_rfl) .i64 (a : Int) (by omega) (by omega)]
  have hz : (sizeOf (Tryd.prog.elem 45)).run Tryd.prog V = .ok 1 V := by kernel_rfl
  rw [hz]
  show Result.ok (sliced (some ⟨g, 0, none⟩) (a : Int).toNat n cap 1) V = _
  by_cases h : cap = a
  · simp [sliced, fromAt, h]
  · simp [sliced, fromAt, h, Addr.add]
    omega
theorem joinFrom {w : World} {g n cap a : Nat} {l : List ByteArray} (h : TextsAt w g 0 l) (hg : g < w.heap.size) (hn : l.length = n) (hc : n ≤ cap) (ha : a ≤ n) (hl : l.length ≤ 16) (hs : ∀ t ∈ l, t.size ≤ 65536) (sep : ByteArray) (hsep : sep.size ≤ 4) :
    Calls Tryd.prog 22 #[.slice (some (fromAt g cap a)) (n - a) (cap - a), .string sep] w fun e w' => e = .returned (.string ⟨(Lib.join ((l.drop a).map (·.data.toList)) sep.data.toList).toArray⟩) ∧ Below w.heap.size w w' := by
  have e : (l.drop a).length = n - a := by rw [List.length_drop, hn]
  by_cases h0 : cap = a
  · have hz : n - a = 0 := by omega
    have hd : l.drop a = [] := List.eq_nil_of_length_eq_zero (by omega)
    rw [hd, hz, fromAt, if_pos h0]
    exact joinAt (l := []) (fun j x hj => by simp at hj) hg (Nat.zero_le _) (Nat.zero_le _) (fun t ht => by simp at ht) sep hsep
  · rw [fromAt, if_neg h0, ← e]
    have h1 := h.drop a
    rw [Nat.zero_add] at h1
    exact joinAt h1 hg (by omega) (by omega) (fun t ht => hs t (List.mem_of_mem_drop ht)) sep hsep
theorem joinTo {w : World} {g cap b : Nat} {l : List ByteArray} (h : TextsAt w g 0 l) (hg : g < w.heap.size) (hc : l.length ≤ cap) (hb : b ≤ l.length) (hl : l.length ≤ 16) (hs : ∀ t ∈ l, t.size ≤ 65536) (sep : ByteArray) (hsep : sep.size ≤ 4) :
    Calls Tryd.prog 22 #[.slice (some ⟨g, 0, none⟩) b cap, .string sep] w fun e w' => e = .returned (.string ⟨(Lib.join ((l.take b).map (·.data.toList)) sep.data.toList).toArray⟩) ∧ Below w.heap.size w w' := by
  have e : (l.take b).length = b := by rw [List.length_take]; omega
  have := joinAt (c := cap) (h.take b) hg (by omega) (by omega) (fun t ht => hs t (List.mem_of_mem_take ht)) sep hsep
  rw [e] at this; exact this
end Go.Proofs.YtiookngmgednjaaDoor
