/- Appends of bytes onto a []byte that the call owns, as laws of the walk. -/
import Derived.Test.YtiookngmgednjaaDoorProg
import Derived.Test.YtiookngmgednjaaDoorOwn
import Derived.Lib.Strings
import Derived.Deep.RegionLaw
namespace Go.Proofs.YtiookngmgednjaaDoor
open Go.RowKit Go.Lib

theorem infoU8 : (Tryd.prog.info? 5).map (fun i => (i.zero, i.size, i.bytes)) = some (some (.int .u8 0), 1, 1) := by kernel_rfl
theorem cells_new (w : World) (cs : List Value) (t : TypeId) : ∀ (j : Nat) u, cs[j]? = some u → (w.alloc (.cells cs.toArray t)).cell? ((⟨w.heap.size, 0, none⟩ : Addr).add j) = some u := by
  intro j u hu
  have hadd : (⟨w.heap.size, 0, none⟩ : Addr).add j = ⟨w.heap.size, j, none⟩ := by unfold Addr.add; split <;> simp_all
  rw [hadd, World.cell?_alloc_at _ _ _ _ rfl]
  simpa using hu
theorem byteCells_app (l m : List UInt8) : byteCells l ++ byteCells m = byteCells (l ++ m) := by simp [byteCells]
theorem slice_of_row {w : World} {B : Nat} {e : TypeId} {size : Nat} {v : Value} {n : Nat} {xs : List Value} (h : w.ownsRow B e size v n xs) : ∃ ao cap, v = .slice ao n cap := by
  rcases h.2 with ⟨hv, h0⟩ | ⟨g, cap, cur, hv, _⟩
  · exact ⟨none, 0, by rw [hv, h0]⟩
  · exact ⟨_, _, hv⟩

/-- What an append of the bytes m leaves. -/
def Appd (base : Nat) (l m : List UInt8) (v : Value) (w : World) (v' : Value) (w' : World) : Prop :=
  w'.ownsRow base 5 1 v' (l ++ m).length (byteCells (l ++ m)) ∧ Touch (fun k => v.ownBlock = some k) w w' ∧ ∀ k, v'.ownBlock = some k → v.ownBlock = some k ∨ w.heap.size ≤ k

/-- The run of the append of m, which lies in a new block; 'd' draws between. -/
theorem app_run (base : Nat) (l m : List UInt8) (v : Value) (w : World) (d : Nat) (n c : Nat) (hn : n = m.length) (cs : Array Value) (hcs : cs = (byteCells m).toArray) (hown : w.ownsRow base 5 1 v l.length (byteCells l)) (hlen : l.length + m.length ≤ 140737488355328) (hbase : base ≤ w.heap.size) :
    ∃ v' w', (Builtin.append_ #[42, 42] 42 #[v, .slice (some ⟨w.heap.size, 0, none⟩) n c]).run Tryd.prog ((w.alloc (.cells cs 5)).drewN d) = .ok v' w' ∧ Appd base l m v w v' w' := by
  obtain ⟨i0, hi, hz0, hz1, hz2⟩ := info_parts infoU8
  subst hn hcs
  have ho2 : ((w.alloc (.cells (byteCells m).toArray 5)).drewN d).ownsRow base 5 1 v l.length (byteCells l) := hown.alloc _
  obtain ⟨v', w', hr, h1, h2, h3⟩ := run_append_mine (P := Tryd.prog) ((w.alloc (.cells (byteCells m).toArray 5)).drewN d) base 42 42 5 i0 (.int .u8 0) 1 1 Tryd.underlying42 hi hz0 hz1 hz2 rfl (by decide) v l.length (byteCells l) ho2 ⟨w.heap.size, 0, none⟩ m.length c (byteCells m) (by rw [byteCells_length, Nat.mul_one])
    (cells_new w (byteCells m) _) (by intro u hu; simp only [byteCells, List.mem_map] at hu; obtain ⟨c, _, rfl⟩ := hu; rfl) (by unfold maxLen; omega) (by omega) (by show base ≤ (w.alloc _).heap.size; simp; omega)
  refine ⟨v', w', hr, ?_, ?_, ?_⟩
  · rw [← byteCells_app, List.length_append]; exact h1
  · have h0 : Touch (fun k => v.ownBlock = some k) w ((w.alloc (.cells (byteCells m).toArray 5)).drewN d) := by
      have := (Touch.refl (fun k => v.ownBlock = some k) w).alloc (.cells (byteCells m).toArray 5)
      exact ⟨this.os, this.tape, this.output, this.size, this.block⟩
    exact h0.trans (Touch.of_grown h2) (fun _ _ h => h)
  · intro k hk
    rcases h3 k hk with h | h
    · exact .inl h
    · right
      have e : ((w.alloc (.cells (byteCells m).toArray 5)).drewN d).heap.size = w.heap.size + 1 := by show (w.alloc _).heap.size = _; simp
      omega

theorem app1 {w : World} {ops : Array Oper} {rest : List Oper} {o : Oper} {a : Act} {Q : Exit → Act → World → Prop} (hgd : o.guard = none) (s x : Operand)
    (ho : o.op = .call { callee := .builtin .append, args := #[s, x], argTypes := #[42, 42] }) (hty : o.type = 42) (base : Nat) (l : List UInt8) (b : UInt8) (v : Value) (hs : a.eval s = v)
    (hown : w.ownsRow base 5 1 v l.length (byteCells l)) (hx : a.eval x = .slice (some ⟨w.heap.size, 0, none⟩) 1 1) (hlen : l.length + 1 ≤ 140737488355328) (hbase : base ≤ w.heap.size)
    (h : ∀ v' w', Appd base l [b] v w v' w' → wpList Tryd.prog ops Q rest (a.put o.dst v') w') : wpList Tryd.prog ops Q (o :: rest) a (w.alloc (.cells #[.int .u8 b.toNat] 5)) := by
  obtain ⟨v', w', hr, hp⟩ := app_run base l [b] v w 0 1 1 rfl #[.int .u8 b.toNat] rfl hown hlen hbase
  refine wpList_plain hgd fun K hK => ?_
  unfold Oper.wp execOp
  have hr' : (Builtin.append_ #[42, 42] 42 #[v, .slice (some ⟨w.heap.size, 0, none⟩) 1 1]).run Tryd.prog (w.alloc (.cells #[.int .u8 b.toNat] 5)) = .ok v' w' := hr
  simp only [ho, hty, resolve, invoke, builtin, Sem.run_bind, Sem.run_pure, Result.andThen_ok, List.map_toArray, List.map_cons, List.map_nil, hs, hx, hr']
  exact hK _ _ (h v' w' hp)

/-- 'string(b)', b a []byte that the call owns. -/
theorem own_string {w : World} {ops : Array Oper} {rest : List Oper} {o : Oper} {a : Act} {Q : Exit → Act → World → Prop} (hgd : o.guard = none) (x : Operand) (ho : o.op = .convert 42 9 x) (base : Nat) (l : List UInt8) (v : Value) (hx : a.eval x = v)
    (hown : w.ownsRow base 5 1 v l.length (byteCells l))
    (hK : wpList Tryd.prog ops Q rest (a.put o.dst (.string ⟨l.toArray⟩)) w) : wpList Tryd.prog ops Q (o :: rest) a w := by
  refine wpList_plain hgd fun K hKK => ?_
  have hc : (convert 42 9 v).run Tryd.prog w = .ok (.string ⟨l.toArray⟩) w := by
    rcases hown.2 with ⟨rfl, h0⟩ | ⟨g, cap, cur, rfl, _⟩
    · have hl : l = [] := List.eq_nil_of_length_eq_zero h0
      subst hl
      rw [run_convert_bytes_string w 42 9 5 none 0 0 Tryd.underlying42 Tryd.underlying5 Tryd.underlying9]
      rfl
    · exact run_convert_bytes_back w 42 9 5 ⟨g, 0, none⟩ cap l Tryd.underlying42 Tryd.underlying5 Tryd.underlying9 (fun j hj => hown.cells (g := g) rfl j _ (by simp [byteCells, hj]))
  unfold Oper.wp execOp
  simp only [ho, hx, Sem.run_bind, Sem.run_pure, Result.andThen_ok, hc]
  exact hKK _ _ hK

/-- An append whose run is known, as one step of a region that draws. -/
theorem step_app {ops : Array Oper} {o : Oper} {a : Act} {w : World} {K : Act → World → Prop} {Q : Exit → Act → World → Prop} {E : Prop} (hgd : o.guard = none) (s x : Operand) (t : TypeId)
    (ho : o.op = .call { callee := .builtin .append, args := #[s, x], argTypes := #[t, t] }) (v sl v' : Value) (w' : World) (hs : a.eval s = v) (hx : a.eval x = sl)
    (hr : (Builtin.append_ #[t, t] o.type #[v, sl]).run Tryd.prog w = .ok v' w') (h : K (a.put o.dst v') w') :
    if Region.wanted o (yielded ops a.tmps) = true then Oper.wp Tryd.prog o a w K Q else E := by
  have hw : Region.wanted o (yielded ops a.tmps) = true := by simp [Region.wanted, hgd]
  rw [if_pos hw]
  unfold Oper.wp execOp
  simp only [ho, resolve, invoke, builtin, Sem.run_bind, Sem.run_pure, Result.andThen_ok, List.map_toArray, List.map_cons, List.map_nil, hs, hx, hr]
  exact h
end Go.Proofs.YtiookngmgednjaaDoor
