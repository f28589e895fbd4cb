/- Lemmas of no program that the walks of this seat share: the row's last step behind 'Below', and small facts on worlds. -/
import Derived.WalkKit
import Derived.ProofKit
import Derived.WalkSmall
import Derived.Lib.Hide
import Derived.Lib.ConvBytes
import Derived.Lib.SmallJoins
import Derived.Lib.AtoiErrMem
import Derived.Laws.CopyOwn
import Derived.Lib.SlBytesConst
import Derived.Lib.AsciiSet
import Derived.Deep.WholeRow
import Derived.WalkLawsBesides
import Derived.Deep.LoopGhost
namespace Go.Proofs.YtnkfgedpdokcpaaDoor
open Go.RowKit Go.WideShapes Go.ChangeShapes
section
variable {H : Type} {enc : TypeId × Value → H} {P : Program}
theorem post_of_below {f : Func} {s : ChangeSpec} {apart fresh handsOn again : Bool} {W W' : World} {args : Array Value} {v : Value} {ds gs : List (DataW H)} {before pa pv : List MemPlace}
    (hW : DataW.Whole enc P f.params.toList s.vars apart W args.toList ds gs before)
    (hres : ∀ (b : Nat) (sp : Nat → Bool) (hd : Bool), DataW.TrodAll enc P W' b sp hd f.resultTypes.toList (v.resultList f.resultTypes.size) (s.fn H (ds ++ gs)).results [])
    (hargs : ∀ sp : Nat → Bool, (∀ p ∈ before, sp p.block = true) → DataW.TrodAll enc P W' 0 sp true f.params.toList args.toList (s.fn H (ds ++ gs)).args pa)
    (hvars : ∀ sp : Nat → Bool, (∀ p ∈ before, sp p.block = true) → DataW.TrodVars enc P W' sp s.vars (s.fn H (ds ++ gs)).vars pv)
    (hps : before = pa ++ pv) (hb : Below W.heap.size W W')
    (hok : ∀ (j : Nat) (t : TypeId) (r : Value), f.resultTypes[j]? = some t → (v.resultList f.resultTypes.size)[j]? = some r → Value.okWide P W' .any 0 t r) :
    s.post enc P f apart fresh handsOn again W args v W' := by
  have hlt : ∀ p ∈ before, p.block < W.heap.size := fun p hp => hW.lt p hp
  have hold : ∀ p ∈ before, (fun b => decide (b < W.heap.size)) p.block = true := fun p hp => by simpa using hlt p hp
  refine ⟨ds, gs, before, [], pa, pv, hW, hres _ _ _, hargs _ hold, hvars _ hold, World.keptBut_mono (fun p hp => ⟨hp, ?_⟩) (hb.frame (· ∈ before)), fun _ => ?_⟩
  · rw [hps, List.mem_append] at hp
    exact Or.inr hp
  · obtain ⟨_, _, _, _, _, hz, hn⟩ := hW
    refine ⟨hok, _, _, ([] ++ pa) ++ pv, ⟨[] ++ pa, pv, trodAll_append (hargs _ (fun _ _ => rfl)) (hres _ _ _), hvars _ (fun _ _ => rfl), rfl, ?_, ?_⟩, ?_⟩
    · intro b off hp
      have hin : MemPlace.cell b off ∈ before := by rw [hps]; simpa using hp
      rw [hb.frozen (hlt _ hin)]
      exact hz b off hin
    · intro ha
      have := hn ha
      rw [hps] at this
      simpa using this
    · intro p hp _
      rw [hps]
      simpa using hp
end

/-- All cells and marks below B as they were. -/
theorem bcell {W w1 : World} (hb : Below W.heap.size W w1) : (∀ b o, b < W.heap.size → w1.cell? ⟨b, o, none⟩ = W.cell? ⟨b, o, none⟩) ∧ (∀ b o, b < W.heap.size → w1.frozen? ⟨b, o, none⟩ = W.frozen? ⟨b, o, none⟩) :=
  ⟨fun b o h => hb.cell (p := ⟨b, o, none⟩) h, fun b o h => hb.frozen (p := ⟨b, o, none⟩) h⟩

theorem ret_int {k : IntKind} {a b : Int} (h : a = b) : Ending.returned (.int k a) = .returned (.int k b) := by rw [h]
theorem ret_bool {a b : Bool} (h : a = b) : Ending.returned (.bool a) = .returned (.bool b) := by rw [h]
theorem ret_str {a b : List UInt8} (h : a = b) : Ending.returned (.string ⟨a.toArray⟩) = .returned (.string ⟨b.toArray⟩) := by rw [h]

theorem below_chain {W w1 w2 : World} (h1 : Below W.heap.size W w1) (h2 : Below w1.heap.size w1 w2) : Below W.heap.size W w2 := h1.trans (h2.mono h1.size)

theorem u8_of {x : Int} (h : (Lit.int .u8 x).wf = true) : ∃ c : UInt8, x = (c.toNat : Int) := by
  have hmin : IntKind.u8.min = 0 := rfl
  have hmax : IntKind.u8.max = 255 := rfl
  simp only [Lit.wf, Bool.and_eq_true, decide_eq_true_eq] at h
  refine ⟨UInt8.ofNat x.toNat, ?_⟩
  rw [UInt8.toNat_ofNat']
  omega
theorem wf_bounds {k : IntKind} {x : Int} (h : (Lit.int k x).wf = true) : k.min ≤ x ∧ x ≤ k.max := by
  simp only [Lit.wf, Bool.and_eq_true, decide_eq_true_eq] at h
  exact h

/-- Block g is a row of bytes that a conversion has made: its first bytes are l; none of its cells is frozen. -/
def BRow (w : World) (g : Nat) (e : TypeId) (l : List UInt8) : Prop :=
  ∃ C : Array Value, w.heap[g]? = some (.cells C e (C.size, C.size + 1)) ∧ l.length ≤ C.size ∧ ∀ (j : Nat) (c : UInt8), l[j]? = some c → C[j]? = some (Value.int .u8 c.toNat)

theorem BRow.cell {w : World} {g : Nat} {e : TypeId} {l : List UInt8} (h : BRow w g e l) {j : Nat} (hj : j < l.length) : w.cell? ⟨g, j, none⟩ = some (.int .u8 (l[j]).toNat) := by
  obtain ⟨C, hC, _, ha⟩ := h
  rw [cell_of_row _ _ _ _ _ _ hC]
  exact ha j _ (List.getElem?_eq_getElem hj)
theorem BRow.free {w : World} {g : Nat} {e : TypeId} {l : List UInt8} (h : BRow w g e l) {j : Nat} (hj : j < l.length) : w.frozen? ⟨g, j, none⟩ = false := by
  obtain ⟨C, hC, hl, _⟩ := h
  simp [World.frozen?, hC]; omega
theorem BRow.lt {w : World} {g : Nat} {e : TypeId} {l : List UInt8} (h : BRow w g e l) : g < w.heap.size := by
  obtain ⟨C, hC, _⟩ := h
  exact (Array.getElem?_eq_some_iff.1 hC).1
theorem BRow.set {w : World} {g : Nat} {e : TypeId} {l : List UInt8} (h : BRow w g e l) {k : Nat} (c : UInt8) : BRow (w.setCell ⟨g, k, none⟩ (.int .u8 c.toNat)) g e (l.set k c) := by
  obtain ⟨C, hC, hl, ha⟩ := h
  refine ⟨C.setIfInBounds k (.int .u8 c.toNat), ?_, by simpa using hl, ?_⟩
  · rw [setCell_eq_setRow w g k C e _ _ hC]
    simpa using setRow_heap w g C (C.setIfInBounds k (.int .u8 c.toNat)) e _ hC
  · intro j d hj
    by_cases hk : k = j
    · subst hk
      have hlt : k < l.length := by
        have := (List.getElem?_eq_some_iff.1 hj).1
        simpa using this
      rw [List.getElem?_set_self hlt] at hj
      cases hj
      rw [Array.getElem?_setIfInBounds_self_of_lt (by omega)]
    · rw [List.getElem?_set_ne hk] at hj
      rw [Array.getElem?_setIfInBounds_ne hk]
      exact ha j d hj
theorem BRow.kept {w w' : World} {g : Nat} {e : TypeId} {l : List UInt8} (h : BRow w g e l) (hb : w'.heap[g]? = w.heap[g]?) : BRow w' g e l := by
  obtain ⟨C, hC, r⟩ := h
  exact ⟨C, hb.trans hC, r⟩
theorem BRow.below {w w' : World} {g B : Nat} {e : TypeId} {l : List UInt8} (h : BRow w g e l) (hb : Below B w w') (hg : g < B) : BRow w' g e l := h.kept (hb.block g hg)

section
variable {P : Program} {w : World} {ops : Array Oper} {rest : List Oper} {o : Oper} {a : Act} {Q : Exit → Act → World → Prop}
/-- '[]byte(s)', s a string: some later world, one row more. -/
theorem wpList_string_bytes (hgd : o.guard = none) (src dst e : TypeId) (x : Operand) (ho : o.op = .convert src dst x) (s : ByteArray) (hx : a.eval x = .string s) (us : P.underlying src = some .string)
    (ud : P.underlying dst = some (.slice e)) (ue : P.underlying e = some (.int .u8)) (B : Nat) (hB : w.heap.size = B)
    (hK : ∀ w' cap, BRow w' B e s.data.toList → Below B w w' → w'.heap.size = B + 1 → s.size ≤ cap → wpList P ops Q rest (a.put o.dst (.slice (some ⟨B, 0, none⟩) s.size cap)) w') : wpList P ops Q (o :: rest) a w := by
  refine wpList_plain hgd fun K hKK => ?_
  unfold Oper.wp execOp
  simp only [ho, hx, Sem.run_bind, Sem.run_pure, Result.andThen_ok, Lib.run_convert_string_bytes w src dst e s us ud ue]
  subst hB
  refine hKK _ _ (hK _ _ ⟨_, Lib.bytesWorld_at_new w e s, ?_, ?_⟩ (Lib.bytesWorld_below w e s) (Lib.bytesWorld_size w e s) ?_)
  · simp [Lib.bytesCells]
  · intro j c hj
    have hlt : j < s.data.size := by
      have := (List.getElem?_eq_some_iff.1 hj).1
      simpa using this
    simp only [Lib.bytesCells]
    rw [Array.getElem?_append_left (by simpa using hlt)]
    have : s.data[j]? = some c := by simpa using hj
    simp [this]
  · exact grownCap_ge w s.size 0 e
/-- 'string(b)', b a row of bytes. -/
theorem wpList_bytes_string (hgd : o.guard = none) (src dst e : TypeId) (x : Operand) (ho : o.op = .convert src dst x) (g n cap : Nat) (hx : a.eval x = .slice (some ⟨g, 0, none⟩) n cap)
    (us : P.underlying src = some (.slice e)) (ue : P.underlying e = some (.int .u8)) (ud : P.underlying dst = some .string) (l : List UInt8) (hrow : BRow w g e l) (hn : n = l.length)
    (hK : wpList P ops Q rest (a.put o.dst (.string ⟨l.toArray⟩)) w) : wpList P ops Q (o :: rest) a w := by
  subst hn
  refine wpList_plain hgd fun K hKK => ?_
  have hc := run_convert_bytes_back (P := P) w src dst e ⟨g, 0, none⟩ cap l us ue ud (fun j hj => by
    have hadd : (⟨g, 0, none⟩ : Addr).add j = ⟨g, j, none⟩ := by unfold Addr.add; split <;> simp_all
    rw [hadd]; exact hrow.cell hj)
  unfold Oper.wp execOp
  simp only [ho, hx, Sem.run_bind, Sem.run_pure, Result.andThen_ok, hc]
  exact hKK _ _ hK
end
end Go.Proofs.YtnkfgedpdokcpaaDoor
