/- An append of one text onto a row of texts that the call owns. -/
import Derived.Test.YtiookngmgednjaaDoorProg
import Derived.Test.YtiookngmgednjaaDoorOwn
import Derived.Lib.Strings
namespace Go.Proofs.YtiookngmgednjaaDoor
open Go.RowKit Go.Lib

theorem infoStr : (Tryd.prog.info? 9).map (fun i => (i.zero, i.size, i.bytes)) = some (some (.string ⟨#[]⟩), 1, 16) := by kernel_rfl
/-- The append of t onto the row of l: v' in w' behind it. -/
def AppS (base : Nat) (l : List ByteArray) (t : ByteArray) (v : Value) (w : World) (v' : Value) (w' : World) : Prop :=
  w'.ownsRow base 9 1 v' (l ++ [t]).length ((l ++ [t]).map Value.string) ∧ Touch (fun k => v.ownBlock = some k) w w' ∧ ∀ k, v'.ownBlock = some k → v.ownBlock = some k ∨ w.heap.size ≤ k
theorem AppS.below {base : Nat} {l : List ByteArray} {t : ByteArray} {v v' : Value} {w0 w w' : World} (h : AppS base l t v w v' w') (hown : w.ownsRow base 9 1 v l.length (l.map Value.string)) (hb : Below w0.heap.size w0 w) (hbase : w0.heap.size ≤ base) : Below w0.heap.size w0 w' :=
  hb.trans (h.2.1.below (fun k hk => Nat.le_trans hbase (hown.lt k hk).1) hb.size)
theorem slice_of_rowS {w : World} {B : Nat} {e : TypeId} {size : Nat} {v : Value} {n : Nat} {xs : List Value} (h : w.ownsRow B e size v n xs) : ∃ ao cap, v = .slice ao n cap := by
  rcases h.2 with ⟨rfl, h0⟩ | ⟨g, cap, cur, rfl, _⟩
  · exact ⟨none, 0, by rw [h0]⟩
  · exact ⟨_, cap, rfl⟩
theorem appS1 {w : World} {ops : Array Oper} {rest : List Oper} {o : Oper} {a : Act} {Q : Exit → Act → World → Prop} (hgd : o.guard = none) (s x : Operand)
    (ho : o.op = .call { callee := .builtin .append, args := #[s, x], argTypes := #[45, 45] }) (hty : o.type = 45) (base : Nat) (l : List ByteArray) (t : ByteArray) (v : Value) (hs : a.eval s = v)
    (hown : w.ownsRow base 9 1 v l.length (l.map Value.string)) (hx : a.eval x = .slice (some ⟨w.heap.size, 0, none⟩) 1 1) (hlen : l.length + 1 ≤ 8388608) (hbase : base ≤ w.heap.size)
    (h : ∀ v' w', AppS base l t v w v' w' → wpList Tryd.prog ops Q rest (a.put o.dst v') w') : wpList Tryd.prog ops Q (o :: rest) a (w.alloc (.cells #[.string t] 9)) := by
  obtain ⟨i0, hi, hz0, hz1, hz2⟩ := info_parts infoStr
  have ho2 : (w.alloc (.cells #[.string t] 9)).ownsRow base 9 1 v l.length (l.map Value.string) := hown.alloc _
  obtain ⟨v', w', hr, h1, h2, h3⟩ := run_append_mine (P := Tryd.prog) (w.alloc (.cells #[.string t] 9)) base 45 45 9 i0 (.string ⟨#[]⟩) 1 16 Tryd.underlying45 hi hz0 hz1 hz2 rfl (by decide) v l.length (l.map Value.string) ho2 ⟨w.heap.size, 0, none⟩ 1 1 [.string t] rfl
    (by
      intro j u hu
      match j, hu with
      | 0, hu =>
        simp at hu
        subst hu
        show (w.alloc _).cell? ⟨w.heap.size, 0, none⟩ = _
        rw [World.cell?_alloc_at _ _ _ _ rfl]; rfl
      | j + 1, hu => simp at hu) (by intro u hu; simp at hu; subst hu; rfl) (by unfold maxLen; omega) (by omega) (by show base ≤ (w.alloc _).heap.size; simp; omega)
  refine wpList_plain hgd fun K hK => ?_
  unfold Oper.wp execOp
  simp only [ho, hty, resolve, invoke, builtin, Sem.run_bind, Sem.run_pure, Result.andThen_ok, List.map_toArray, List.map_cons, List.map_nil, hs, hx, hr]
  refine hK _ _ (h v' w' ⟨?_, ?_, ?_⟩)
  · rw [List.map_append, List.length_append]; exact h1
  · have h0 : Touch (fun k => v.ownBlock = some k) w (w.alloc (.cells #[.string t] 9)) := (Touch.refl _ w).alloc _
    exact h0.trans (Touch.of_grown h2) (fun _ _ h => h)
  · intro k hk
    rcases h3 k hk with h | h
    · exact .inl h
    · right
      have e : (w.alloc (.cells #[.string t] 9)).heap.size = w.heap.size + 1 := by simp
      omega
end Go.Proofs.YtiookngmgednjaaDoor
