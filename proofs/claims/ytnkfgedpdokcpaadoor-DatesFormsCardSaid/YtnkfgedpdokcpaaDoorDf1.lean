/- An append of some texts onto a row of texts that the call owns. -/
import Derived.Test.YtnkfgedpdokcpaaDoorProg
import Derived.Test.YtnkfgedpdokcpaaDoorOwn
import Derived.Lib.Strings
namespace Go.Proofs.YtnkfgedpdokcpaaDoor
open Go.RowKit Go.Lib

theorem infoStr7 : (Tryd.prog.info? 9).map (fun i => (i.zero, i.size, i.bytes)) = some (some (.string ⟨#[]⟩), 1, 16) := by kernel_rfl
theorem slice_of_row7 {w : World} {B : Nat} {e : TypeId} {size : Nat} {v : Value} {n : Nat} {xs : List Value} (h : w.ownsRow B e size v n xs) : ∃ ao cap, v = .slice ao n cap := by
  rcases h.2 with ⟨rfl, h0⟩ | ⟨g, cap, cur, rfl, _⟩
  · exact ⟨none, 0, by rw [h0]⟩
  · exact ⟨_, cap, rfl⟩
/-- What an append onto a row of texts leaves. -/
def AppR (base : Nat) (l m : List ByteArray) (v : Value) (w : World) (v' : Value) (w' : World) : Prop :=
  w'.ownsRow base 9 1 v' (l ++ m).length ((l ++ m).map Value.string) ∧ Touch (fun k => v.ownBlock = some k) w w' ∧ ∀ k, v'.ownBlock = some k → v.ownBlock = some k ∨ w.heap.size ≤ k
theorem appR {w : World} {ops : Array Oper} {rest : List Oper} {o : Oper} {a : Act} {Q : Exit → Act → World → Prop} (hgd : o.guard = none) (s x : Operand)
    (ho : o.op = .call { callee := .builtin .append, args := #[s, x], argTypes := #[39, 39] }) (base : Nat) (l m : List ByteArray) (n : Nat) (hnl : l.length = n) (v : Value) (hs : a.eval s = v)
    (hown : w.ownsRow base 9 1 v n (l.map Value.string)) (ad : Addr) (k c : Nat) (hx : a.eval x = .slice (some ad) k c) (hk : m.length = k) (hm : ∀ (j : Nat) (t : ByteArray), m[j]? = some t → w.cell? (ad.add j) = some (.string t))
    (hlen : l.length + m.length ≤ 1000) (hbase : base ≤ w.heap.size)
    (h : ∀ v' w', AppR base l m v w v' w' → wpList Tryd.prog ops Q rest (a.put o.dst v') w') : wpList Tryd.prog ops Q (o :: rest) a w := by
  obtain ⟨i0, hi, hz0, hz1, hz2⟩ := info_parts infoStr7
  subst hk hnl
  refine wpList_append_mine hgd s x _ ho base 9 i0 _ 1 16 Tryd.underlying39 hi hz0 hz1 hz2 rfl (by decide) v l.length (l.map Value.string) hs hown ad m.length c (m.map Value.string) hx (by simp)
    (fun j u hu => ?_) (by intro u hu; obtain ⟨t, _, rfl⟩ := List.mem_map.1 hu; rfl) (by unfold maxLen; omega) (by omega) hbase (fun v' w' h1 h2 h3 => h v' w' ⟨?_, Touch.of_grown h2, h3⟩)
  · rw [List.getElem?_map, Option.map_eq_some_iff] at hu
    obtain ⟨t, ht, rfl⟩ := hu
    exact hm j t ht
  · rw [List.map_append, List.length_append]; exact h1
theorem row_at7 {w : World} {B g cap : Nat} {l : List ByteArray} (h : w.ownsRow B 9 1 (.slice (some ⟨g, 0, none⟩) l.length cap) l.length (l.map Value.string)) {k : Nat} {t : ByteArray} (ht : l[k]? = some t) : w.cell? ⟨g, k, none⟩ = some (.string t) := by
  have hk : k < l.length := (List.getElem?_eq_some_iff.1 ht).1
  rcases h.2 with ⟨h', _⟩ | ⟨g', cap', cur, h', _, hg, _, _, _, htake⟩
  · simp at h'
  · simp only [Value.slice.injEq, Option.some.injEq, Addr.mk.injEq, and_true, true_and] at h'
    obtain ⟨rfl, rfl⟩ := h'
    rw [cell_of_row w g k cur 9 (0, 0) hg]
    have e : (l.map Value.string)[k]? = some (.string t) := by rw [List.getElem?_map, ht]; rfl
    rw [← htake, List.getElem?_take, if_pos (by omega)] at e
    simpa using e
end Go.Proofs.YtnkfgedpdokcpaaDoor
