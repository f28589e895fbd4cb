/- An address is equal to itself: the comparison of the model. -/
import Derived.Test.YtiookngmgednjaaDoorAd3
import Derived.DeepKeys
namespace Go.Proofs.YtiookngmgednjaaDoor
open Go.RowKit Go.Lib

theorem mapM_some {α β : Type} {f : α → Option β} : ∀ {l : List α}, (∀ x ∈ l, ∃ y, f x = some y) → ∃ ys, l.mapM f = some ys
  | [], _ => ⟨[], rfl⟩
  | x :: l, h => by
    obtain ⟨y, hy⟩ := h x (by simp)
    obtain ⟨ys, hys⟩ := mapM_some (l := l) fun z hz => h z (by simp [hz])
    exact ⟨y :: ys, by rw [List.mapM_cons, hy, hys]; rfl⟩
theorem lits_u8 (c : UInt8) (d : Nat) : Tryd.prog.keyLits (d + 1) 5 [.int .u8 c.toNat] = some [.int .u8 c.toNat] := by
  unfold Program.keyLits
  rw [Tryd.underlying5]
  have hw : (Lit.int .u8 (c.toNat : Int)).wf = true := by
    have := c.toNat_lt
    have hmin : IntKind.u8.min = 0 := rfl
    have hmax : IntKind.u8.max = 255 := rfl
    simp only [Lit.wf, Bool.and_eq_true, decide_eq_true_eq]
    omega
  exact if_pos ⟨rfl, hw⟩
theorem lits_sixteen (R : List UInt8) (hR : R.length = 16) (d : Nat) : ∃ L, Tryd.prog.keyLits (d + 2) 22 (R.map fun c => Value.int .u8 c.toNat) = some L := by
  unfold Program.keyLits
  rw [Tryd.underlying22]
  have h16 : Tryd.prog.cellsOf 22 = 16 := by kernel_rfl
  have h1 : Tryd.prog.cellsOf 5 = 1 := by kernel_rfl
  show ∃ L, (if (R.map fun c => Value.int .u8 c.toNat).length = Tryd.prog.cellsOf 22 then _ else none) = some L
  rw [if_pos (by rw [List.length_map, hR, h16])]
  obtain ⟨ys, hys⟩ := mapM_some (f := fun i => Tryd.prog.keyLits (d + 1) 5 (((R.map fun c => Value.int .u8 c.toNat).drop (i * Tryd.prog.cellsOf 5)).take (Tryd.prog.cellsOf 5))) (l := List.range 16) fun i hi => by
    have hi := List.mem_range.1 hi
    rw [h1, Nat.mul_one]
    have hl : i < (R.map fun c => Value.int .u8 c.toNat).length := by rw [List.length_map]; omega
    rw [List.drop_eq_getElem_cons hl]
    refine ⟨[.int .u8 (R[i]'(by omega)).toNat], ?_⟩
    have e : (((R.map fun c => Value.int .u8 c.toNat)[i]'hl) :: (R.map fun c => Value.int .u8 c.toNat).drop (i + 1)).take 1 = [.int .u8 (R[i]'(by omega)).toNat] := by simp
    rw [e]; exact lits_u8 _ d
  exact ⟨ys.flatten, by rw [hys]; rfl⟩
theorem lits_adr (b : Bool) (R : List UInt8) (hR : R.length = 16) : ∃ L, Tryd.prog.keyLits 3 24 (adrC b R).toList = some L := by
  unfold Program.keyLits
  rw [Tryd.underlying24]
  have hT : Tryd.prog.cellsOf 24 = 17 := by kernel_rfl
  have h16 : Tryd.prog.cellsOf 22 = 16 := by kernel_rfl
  have h1 : Tryd.prog.cellsOf 4 = 1 := by kernel_rfl
  obtain ⟨L2, hL2⟩ := lits_sixteen R hR 0
  have hL1 : Tryd.prog.keyLits 2 4 [.bool b] = some [.bool b] := by
    unfold Program.keyLits
    rw [Tryd.underlying4]
  have hlen : (adrC b R).toList.length = Tryd.prog.cellsOf 24 := by rw [hT]; simp [adrC, hR]
  refine ⟨[Lit.bool b] ++ (L2 ++ []), ?_⟩
  show (if (adrC b R).toList.length = Tryd.prog.cellsOf 24 ∧ _ then _ else none) = _
  rw [if_pos ⟨hlen, by simp⟩]
  have e1 : ((adrC b R).toList.drop 0).take (Tryd.prog.cellsOf 4) = [.bool b] := by rw [h1]; rfl
  have e2 : ((adrC b R).toList.drop 1).take (Tryd.prog.cellsOf 22) = R.map fun c => Value.int .u8 c.toNat := by
    rw [h16]
    show (R.map fun c => Value.int .u8 c.toNat).take 16 = _
    exact List.take_of_length_le (by rw [List.length_map, hR]; exact Nat.le_refl _)
  simp only [List.mapM_cons, List.mapM_nil, e1, e2, hL1, hL2]
  rfl
theorem adr_eql (b : Bool) (R : List UInt8) (hR : R.length = 16) : ∀ V, (binOp .eql 24 (.agg (adrC b R)) (.agg (adrC b R))).run Tryd.prog V = .ok (.bool true) V := fun V => by
  obtain ⟨L, hL⟩ := lits_adr b R hR
  have hf : (Value.agg (adrC b R)).formed Tryd.prog 24 = true := by
    unfold Value.formed
    rw [Tryd.underlying24]
    have hT : Tryd.prog.cellsOf 24 = 17 := by kernel_rfl
    rw [hT]
    simp [adrC, hR]
  obtain ⟨r, hr, hiff⟩ := run_equalIn_deep (P := Tryd.prog) 9997 3 24 (by kernel_rfl) V 3 3 (.agg (adrC b R)) (.agg (adrC b R)) L L hf hf hL hL
  have hr1 : r = true := hiff.2 rfl
  rw [hr1] at hr
  simp only [binOp]
  simp [Op.equal, Op.maxDepth, hr]
end Go.Proofs.YtiookngmgednjaaDoor
