/- Opening of parameters: an array of numbers, and a struct of a bool and an array of numbers, by value. -/
import Derived.Test.YtiookngmgednjaaDoorBase
import Derived.Lib.SmallJoins
import Derived.WideKeyArgs
import Derived.OpenShut
namespace Go.Proofs.YtiookngmgednjaaDoor
open Go.ChangeShapes Go.WideShapes Go.ChangeAt Go.RowKit
section
variable {H : Type} {enc : TypeId × Value → H} {P : Program} {w : World} {base : Nat} {spare : Nat → Bool} {held : Bool}
/-- An array of integers: its cells. -/
theorem cells_ints {m n : Nat} {t e : TypeId} {k : IntKind} {cs : List Value} {x : DataW H × List MemPlace} (ht : P.underlying t = some (.array n e)) (he : P.underlying e = some (.int k)) (hc : P.cellsOf e = 1) (hC : P.cellsOf t = n)
    (h : DataW.trod enc P w base spare held m t cs = some x) : ∃ l : List Int, l.length = n ∧ cs = l.map (Value.int k) ∧ x.2 = [] ∧ ∀ i ∈ l, (Lit.int k i).wf = true := by
  obtain ⟨xs, m', _, hx, hl, hn, hg⟩ := DataW.trod_array ht h
  have hl' : cs.length = n := hl.trans hC
  have key : ∀ i < n, ∃ v, cs[i]? = some (.int k v) ∧ xs[i]? = some (.lit (.int k v), []) ∧ (Lit.int k v).wf = true := fun i hi => by
    have h1 := hg i hi
    obtain ⟨y, hy⟩ : ∃ y, xs[i]? = some y := ⟨xs[i]'(by omega), List.getElem?_eq_getElem (by omega)⟩
    rw [hy, hc, Nat.mul_one] at h1
    obtain ⟨v, e1, e2, e3⟩ := DataW.trod_int he h1
    refine ⟨v, ?_, by rw [hy, e2], e3⟩
    have e4 := congrArg (fun l => l[0]?) e1
    simpa using e4
  refine ⟨cs.map RowKit.intOf, by simp [hl'], ?_, ?_, ?_⟩
  · apply List.ext_getElem?
    intro i
    by_cases hi : i < n
    · obtain ⟨v, e1, _, _⟩ := key i hi
      simp [e1, RowKit.intOf]
    · have : cs[i]? = none := List.getElem?_eq_none (by omega)
      simp [this]
  · rw [hx]
    simp only [List.flatMap_eq_nil_iff]
    intro y hy
    obtain ⟨i, hi, rfl⟩ := List.getElem_of_mem hy
    obtain ⟨v, _, e2, _⟩ := key i (by omega)
    rw [List.getElem?_eq_getElem hi] at e2
    injection e2 with e2
    rw [e2]
  · intro z hz
    obtain ⟨c, hc', rfl⟩ := List.mem_map.1 hz
    obtain ⟨i, hi, rfl⟩ := List.getElem_of_mem hc'
    obtain ⟨v, e1, _, e3⟩ := key i (by omega)
    rw [List.getElem?_eq_getElem hi] at e1
    injection e1 with e1
    rw [e1]; exact e3
/-- An array of integers, by value. -/
theorem open_ints {r : Reach} {b0 n : Nat} {t e : TypeId} {k : IntKind} {v : Value} {d : DataW H} {p : List MemPlace} (ht : P.underlying t = some (.array n e)) (he : P.underlying e = some (.int k)) (hc : P.cellsOf e = 1) (hC : P.cellsOf t = n)
    (hv : Value.okWide P w r b0 t v) (h : DataW.Trod enc P w base spare held t v d p) : ∃ l : List Int, l.length = n ∧ v = .agg ⟨l.map (Value.int k)⟩ ∧ p = [] ∧ ∀ i ∈ l, (Lit.int k i).wf = true := by
  obtain ⟨cs, rfl, hz⟩ : ∃ cs, v = .agg cs ∧ cs.size = P.cellsOf t := by
    simp only [Value.okWide, ht] at hv
    obtain ⟨cs, h1, h2, _⟩ := hv
    exact ⟨cs, h1, h2⟩
  obtain ⟨fuel, hf⟩ := h
  obtain ⟨l, h1, h2, h3, h4⟩ := cells_ints ht he hc hC hf
  refine ⟨l, h1, ?_, h3, h4⟩
  obtain ⟨cs⟩ := cs
  simp [Value.cells] at h2
  rw [h2]
/-- A struct of a bool and an array of integers, by value. -/
theorem open_bool_ints {r : Reach} {b0 n : Nat} {t u e : TypeId} {k : IntKind} {f g : Field} {v : Value} {d : DataW H} {p : List MemPlace} (hs : P.underlying t = some (.struct #[f, g])) (hb : P.underlying f.type = some .bool) (h0 : f.offset = 0) (h1 : g.offset = 1) (hf1 : P.cellsOf f.type = 1)
    (hu : g.type = u) (ht : P.underlying u = some (.array n e)) (he : P.underlying e = some (.int k)) (hc : P.cellsOf e = 1) (hC : P.cellsOf u = n) (hT : P.cellsOf t = n + 1)
    (hv : Value.okWide P w r b0 t v) (h : DataW.Trod enc P w base spare held t v d p) : ∃ (b : Bool) (l : List Int), l.length = n ∧ v = .agg ⟨.bool b :: l.map (Value.int k)⟩ ∧ p = [] ∧ ∀ i ∈ l, (Lit.int k i).wf = true := by
  obtain ⟨cs, rfl, hz⟩ := okWide_struct hs hv
  obtain ⟨fuel, hf⟩ := h
  obtain ⟨xs, m, _, hx, hl, hn, hg⟩ := DataW.trod_struct hs hf
  match xs, hn with
  | [y, z], _ =>
    have g0 := hg 0 f rfl
    have g1 := hg 1 g rfl
    rw [h0, hf1] at g0
    rw [h1, hu, hC] at g1
    simp only [Prod.mk.injEq] at hx
    obtain ⟨b, e1, e2⟩ := DataW.trod_bool hb (x := y) g0
    obtain ⟨l, l1, l2, l3, l4⟩ := cells_ints ht he hc hC (x := z) g1
    refine ⟨b, l, l1, ?_, ?_, l4⟩
    · obtain ⟨cs⟩ := cs
      simp [Value.cells] at e1 l2 hz
      have hz' : cs.length = n + 1 := hz.trans hT
      cases cs with
      | nil => simp at hz'
      | cons c cs =>
        simp at e1 l2 hz'
        rw [← l2, e1, List.take_of_length_le (by omega)]
    · rw [hx.2, ← l3]
      have : y.2 = [] := by rw [e2]
      simp [this]
end
end Go.Proofs.YtiookngmgednjaaDoor
