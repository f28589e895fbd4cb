/- Two cookies compared: the comparison of the model. -/
import Derived.Test.YthfndlphhgchnaaGreatDoorSc0
import Derived.Test.YthfndlphhgchnaaGreatDoorSpec10c
import Derived.DeepKeys
namespace Go.Proofs.YthfndlphhgchnaaGreatDoor
open Go.RowKit Go.Lib Go.Proofs.Foot

/-- What a cookie's cells may hold. -/
structure WfC (t : CkT) : Prop where
  name : t.name.length ≤ maxLen
  value : t.value.length ≤ maxLen
  domain : t.domain.length ≤ maxLen
  path : t.path.length ≤ maxLen
  exp : (Lit.int .i64 t.exp).wf = true
  age : (Lit.int .i64 t.age).wf = true
  site : t.site < 256
def litC (t : CkT) : List Lit := [.string t.name, .string t.value, .string t.domain, .string t.path, .int .i64 t.exp, .bool t.hasExp, .int .i64 t.age, .bool t.hasAge, .bool t.secure, .bool t.hidden, .int .u8 (t.site : Nat)]
theorem litC_inj {a b : CkT} : litC a = litC b ↔ a = b := by
  constructor
  · intro h
    cases a; cases b
    simp only [litC, List.cons.injEq, Lit.string.injEq, Lit.bool.injEq, Lit.int.injEq, true_and, and_true] at h
    obtain ⟨h1, h2, h3, h4, h5, h6, h7, h8, h9, h10, h11⟩ := h
    subst h1 h2 h3 h4 h5 h6 h7 h8 h9 h10
    have : (_ : Nat) = _ := Int.ofNat.inj h11
    subst this
    rfl
  · rintro rfl; rfl
theorem lits_str {l : List UInt8} (h : l.length ≤ maxLen) (d : Nat) : Tryz.prog.keyLits (d + 1) 9 [.string (tx l)] = some [.string l] := by
  unfold Program.keyLits
  rw [Tryz.underlying9]
  have : (tx l).size ≤ maxLen := by rw [tx_size]; exact h
  have e := (if_pos this : (if (tx l).size ≤ maxLen then some [Lit.string (tx l).data.toList] else none) = some [Lit.string (tx l).data.toList])
  rw [tx_list] at e
  exact e
theorem lits_int {n : Int} (h : (Lit.int .i64 n).wf = true) (d : Nat) : Tryz.prog.keyLits (d + 1) 3 [.int .i64 n] = some [.int .i64 n] := by
  unfold Program.keyLits
  rw [Tryz.underlying3]
  exact if_pos ⟨rfl, h⟩
theorem lits_bool (b : Bool) (d : Nat) : Tryz.prog.keyLits (d + 1) 4 [.bool b] = some [.bool b] := by
  unfold Program.keyLits
  rw [Tryz.underlying4]
theorem lits_site {n : Nat} (h : n < 256) (d : Nat) : Tryz.prog.keyLits (d + 1) 22 [.int .u8 (n : Nat)] = some [.int .u8 (n : Nat)] := by
  unfold Program.keyLits
  rw [Tryz.underlying22]
  have hw : (Lit.int .u8 (n : Int)).wf = true := by
    have hmin : IntKind.u8.min = 0 := rfl
    have hmax : IntKind.u8.max = 255 := rfl
    simp only [Lit.wf, Bool.and_eq_true, decide_eq_true_eq]
    omega
  exact if_pos ⟨rfl, hw⟩
set_option maxRecDepth 100000 in
theorem lits_ck (t : CkT) (h : WfC t) : Tryz.prog.keyLits 3 24 (rowC t).toList = some (litC t) := by
  unfold Program.keyLits
  rw [Tryz.underlying24]
  have hT : Tryz.prog.cellsOf 24 = 11 := by kernel_rfl
  have h1 : Tryz.prog.cellsOf 9 = 1 := by kernel_rfl
  have h2 : Tryz.prog.cellsOf 3 = 1 := by kernel_rfl
  have h3 : Tryz.prog.cellsOf 4 = 1 := by kernel_rfl
  have h4 : Tryz.prog.cellsOf 22 = 1 := by kernel_rfl
  have hlen : (rowC t).toList.length = Tryz.prog.cellsOf 24 := by rw [hT]; rfl
  have n0 := lits_str h.name 1
  have n1 := lits_str h.value 1
  have n2 := lits_str h.domain 1
  have n3 := lits_str h.path 1
  have n4 := lits_int h.exp 1
  have n5 := lits_bool t.hasExp 1
  have n6 := lits_int h.age 1
  have n7 := lits_bool t.hasAge 1
  have n8 := lits_bool t.secure 1
  have n9 := lits_bool t.hidden 1
  have n10 := lits_site h.site 1
  show (if (rowC t).toList.length = Tryz.prog.cellsOf 24 ∧ _ then _ else none) = _
  rw [if_pos ⟨hlen, by simp⟩]
  simp only [List.mapM_cons, List.mapM_nil, rowC, h1, h2, h3, h4, List.drop_succ_cons, List.drop_zero, List.take_succ_cons, List.take_zero, n0, n1, n2, n3, n4, n5, n6, n7, n8, n9, n10]
  rfl
theorem ck_form (t : CkT) : (Value.agg (rowC t)).formed Tryz.prog 24 = true := by
  unfold Value.formed
  rw [Tryz.underlying24]
  have hT : Tryz.prog.cellsOf 24 = 11 := by kernel_rfl
  rw [hT]
  rfl
theorem ck_equal (a b : CkT) (ha : WfC a) (hb : WfC b) : ∀ V, (Op.equalIn 10000 24 (.agg (rowC a)) (.agg (rowC b))).run Tryz.prog V = .ok (decide (a = b)) V := fun V => by
  obtain ⟨r, hr, hiff⟩ := run_equalIn_deep (P := Tryz.prog) 9997 3 24 (by kernel_rfl) V 3 3 (.agg (rowC a)) (.agg (rowC b)) _ _ (ck_form a) (ck_form b) (lits_ck a ha) (lits_ck b hb)
  rw [litC_inj] at hiff
  have e : r = decide (a = b) := by rw [Bool.eq_iff_iff, hiff]; simp
  rw [e] at hr
  exact hr
theorem ck_eql (a b : CkT) (ha : WfC a) (hb : WfC b) (r : Bool) (h : decide (a = b) = r) : ∀ V, (binOp .eql 24 (.agg (rowC a)) (.agg (rowC b))).run Tryz.prog V = .ok (.bool r) V := fun V => by
  have hr := ck_equal a b ha hb V
  rw [h] at hr
  simp only [binOp]
  simp [Op.equal, Op.maxDepth, hr]
theorem ck_neq (a b : CkT) (ha : WfC a) (hb : WfC b) (r : Bool) (h : decide (a = b) = !r) : ∀ V, (binOp .neq 24 (.agg (rowC a)) (.agg (rowC b))).run Tryz.prog V = .ok (.bool r) V := fun V => by
  have hr := ck_equal a b ha hb V
  rw [h] at hr
  simp only [binOp]
  simp [Op.equal, Op.maxDepth, hr]
theorem dateO_ge {l : List UInt8} {x : Int} (h : dateO l = some x) : -62135596800 ≤ x := by
  unfold dateO dateD at h
  split at h
  · rename_i hh
    have ok := of_decide_eq_true hh.2
    injection h with h
    have hb := befY_mono (show (1 : Int) ≤ (fixY ((dateP l).year.getD 0) : Nat) from ok.1.1)
    have e : befY 1 = 0 := by decide
    have hc := cumY_bd (y := (fixY ((dateP l).year.getD 0) : Nat)) ok.2.1.1 ok.2.1.2
    obtain ⟨-, -, hk, h1, h2, h3⟩ := ok
    rw [← h]
    unfold secS
    omega
  · cases h
/-- Dates that a text tells are no earlier. -/
theorem exp_attr {t : CkT} (h : -62135596800 ≤ t.exp) (n v : List UInt8) : -62135596800 ≤ (attrC t n v).exp := by
  unfold attrC
  split
  · cases hd : dateO v with
    | none => exact h
    | some x => exact dateO_ge hd
  · split
    · split <;> exact h
    · split
      · exact h
      · split
        · exact h
        · split
          · exact h
          · split
            · exact h
            · split <;> exact h
theorem exp_more (ps : List (List UInt8)) : ∀ t : CkT, -62135596800 ≤ t.exp → -62135596800 ≤ (moreC t ps).exp := by
  induction ps with
  | nil => intro t h; exact h
  | cons p ps ih =>
    intro t h
    rw [moreC_cons]
    refine ih _ ?_
    unfold applyC
    split
    · exact exp_attr h _ _
    · exact h
theorem parse_zero {l : List UInt8} {t : CkT} {n : Nat} (h : parseC l = (t, n)) (hn : n ≠ 0) : t = {} := by
  unfold parseC at h
  split at h
  · injection h with h; exact h.symm
  · split at h
    · injection h with h; exact h.symm
    · unfold startC at h
      split at h
      · injection h with h; exact h.symm
      · split at h
        · injection h with h; exact h.symm
        · injection h with _ h; exact absurd h.symm hn
theorem parse_exp {l : List UInt8} {t : CkT} {n : Nat} (h : parseC l = (t, n)) : -62135596800 ≤ t.exp := by
  unfold parseC at h
  split at h
  · injection h with h; rw [← h]; decide
  · split at h
    · injection h with h; rw [← h]; decide
    · unfold startC at h
      split at h
      · injection h with h; rw [← h]; decide
      · split at h
        · injection h with h; rw [← h]; decide
        · injection h with h
          rw [← h]
          exact exp_more _ _ (show (-62135596800 : Int) ≤ 0 by decide)
theorem wf_i64 {x : Int} (h1 : -9223372036854775808 ≤ x) (h2 : x ≤ 9223372036854775807) : (Lit.int .i64 x).wf = true := by
  have hmin : IntKind.i64.min = -9223372036854775808 := rfl
  have hmax : IntKind.i64.max = 9223372036854775807 := rfl
  simp only [Lit.wf, Bool.and_eq_true, decide_eq_true_eq]
  omega
theorem wf_zero : WfC {} := ⟨Nat.zero_le _, Nat.zero_le _, Nat.zero_le _, Nat.zero_le _, by decide, by decide, by decide⟩
theorem wf_parse {l : List UInt8} {t : CkT} {n : Nat} (h : parseC l = (t, n)) : WfC t := by
  by_cases hn : n = 0
  · subst hn
    have G := goodC_of h
    have he := parse_exp h
    have h1 := G.len
    have h2 := G.domN
    have h3 := G.pthN
    have h4 := G.expR
    have h5 := G.age1
    have h6 := G.site
    exact ⟨by unfold maxLen; omega, by unfold maxLen; omega, by unfold maxLen; omega, by unfold maxLen; omega, wf_i64 (by omega) (by omega), wf_i64 (by omega) (by omega), by omega⟩
  · rw [parse_zero h hn]; exact wf_zero
end Go.Proofs.YthfndlphhgchnaaGreatDoor
