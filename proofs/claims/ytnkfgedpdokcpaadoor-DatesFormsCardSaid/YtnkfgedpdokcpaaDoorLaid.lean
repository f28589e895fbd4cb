/- What a listed variable of an interface's type holds: a value in an interface. Of no program. -/
import GoSem.ClaimJoined
import Derived.LaidSub
import Derived.KernelRfl
import Derived.Lib.LaidTab
import Derived.Test.YtnkfgedpdokcpaaDoorBase
namespace Go.Proofs.YtnkfgedpdokcpaaDoor

theorem trod_iface_of {H : Type} {enc : TypeId × Value → H} {P : Program} {w : World} {base : Nat} {sp : Nat → Bool} {fuel : Nat} {t : TypeId} {cs : List Value} {nm : String} {d : DataW H} {ps : List MemPlace}
    (hk : ∃ x, P.underlying t = some (.interface x)) (h : DataW.trod enc P w base sp false fuel t cs = some (.iface nm d, ps)) : ∃ u v, cs = [.iface u v] := by
  obtain ⟨x, hu⟩ := hk
  cases fuel with
  | zero => simp [DataW.trod] at h
  | succ n =>
    unfold DataW.trod at h
    rw [hu] at h
    split at h <;> first | exact ⟨_, _, rfl⟩ | simp_all

theorem laid_iface {P : Program} {w : World} {laid : List (String × DataW Unit)} {n : String} {g : Nat} {t : TypeId} (D : DataW Unit) (hD : ∃ nm d, D = .iface nm d) (hL : laidMetH P laid w) (hg : P.globalNamed n = some g) (ht : (P.globals[g]?).map (·.type) = some t)
    (hu : ∃ x, P.underlying t = some (.interface x)) (hf : (laid.filter fun x => x.1 == n) = [(n, D)]) (hn : D.handleName? = none) : ∃ te pe, w.cell? ⟨g, 0, none⟩ = some (.iface te pe) := by
  obtain ⟨nm, d, rfl⟩ := hD
  have h1 := hL.filter (fun x => x.1 == n)
  rw [hf] at h1
  have h2 : laidMet P [(n, .iface nm d)] w := by
    unfold laidMetH at h1
    simp only [List.filter_cons, hn, Option.isSome_none, List.filter_nil] at h1
    exact h1
  obtain ⟨ps, ⟨g1, t1, cs, f1, p1, q1, hg1, ht1, hv1, hd1, _, _⟩, _, _⟩ := h2
  obtain rfl := Option.some.inj (hg.symm.trans hg1)
  obtain rfl := Option.some.inj (ht.symm.trans ht1)
  obtain ⟨u, v, hcs⟩ := trod_iface_of hu hd1
  have h3 := World.var?_cell hg1 hv1 0
  rw [Array.eq_one_of_toList hcs] at h3
  exact ⟨u, v, by simpa using h3⟩
/-- A listed table of integers. -/
theorem laid_tab {P : Program} {w : World} {laid : List (String × DataW Unit)} {n : String} {g : Nat} {t e : TypeId} {m : Nat} {k : IntKind} (zs : List Int) (hL : laidMetH P laid w) (hg : P.globalNamed n = some g) (ht : (P.globals[g]?).map (·.type) = some t)
    (hu : P.underlying t = some (.array m e)) (he : P.underlying e = some (.int k)) (hce : P.cellsOf e = 1) (hct : P.cellsOf t = m) (hf : (laid.filter fun x => x.1 == n) = [(n, Lib.tabData k zs)]) (hn : (Lib.tabData (H := Unit) k zs).handleName? = none) : Lib.TabIs P w n k zs := by
  have h1 := hL.filter (fun x => x.1 == n)
  rw [hf] at h1
  have h2 : laidMet P [(n, Lib.tabData k zs)] w := by
    unfold laidMetH at h1
    simp only [List.filter_cons, hn, Option.isSome_none, List.filter_nil] at h1
    exact h1
  exact Lib.tabIs_of_head hg ht hu he hce hct h2
end Go.Proofs.YtnkfgedpdokcpaaDoor
