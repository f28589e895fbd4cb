/- Walk: footmanlaw07's two: a number's last two digits. -/
import Derived.Test.YtnkfgedpdokcpaaDoorTx0
import Derived.Deep.RegionHeld3
import Derived.IntWalk
namespace Go.Proofs.YtnkfgedpdokcpaaDoor
open Go.RowKit Go.Lib Go.Proofs.Foot

def tenT7 : ByteArray := ⟨#[48, 49, 50, 51, 52, 53, 54, 55, 56, 57]⟩
theorem ten_at7 (d : Nat) (h : d < 10) (a b : Nat) (ha : a = d) (hb : b = d + 1) : (tenT7.extract a b).data.toList = [dgt d] := by
  rw [ha, hb]
  have : ∀ d < 10, (tenT7.extract d (d + 1)).data.toList = [dgt d] := by decide +kernel
  exact this d h
theorem slice_ten7 (d : Nat) (h : d < 10) : ∃ T : ByteArray, T.data.toList = [dgt d] ∧ T.size = 1 ∧ ∀ V, (Instr.slice 9 (.string ⟨#[48, 49, 50, 51, 52, 53, 54, 55, 56, 57]⟩) (some (.int .i64 (d : Int))) (some (.int .i64 ((d : Int) + 1))) none).run Tryd.prog V = .ok (.string T) V := by
  have hl := ten_at7 d h (d : Int).toNat ((d : Int) + 1).toNat (by omega) (by omega)
  exact ⟨_, hl, by rw [Lib.size_eq, hl]; rfl, fun V => run_slice_string V _ _ _ _ _ _ Tryd.underlying9 (by omega) (by omega) (by show (d : Int) + 1 ≤ 10; omega)⟩
/-- Two digits as a text. -/
def ddT (n : Nat) : ByteArray := ⟨(dd n).toArray⟩
theorem ddT_l (n : Nat) : (ddT n).data.toList = dd n := by simp [ddT]
theorem ddT_z (n : Nat) : (ddT n).size = 2 := by rw [Lib.size_eq, ddT_l]; rfl
theorem bytes_ext7 {a b : ByteArray} (h : a.data.toList = b.data.toList) : a = b := by
  cases a; cases b; simp at h; rw [h]
theorem cat7 (s t : ByteArray) : (s ++ t).data.toList = s.data.toList ++ t.data.toList := by simp [ByteArray.data_append]
set_option maxHeartbeats 1000000 in
set_option maxRecDepth 100000 in
theorem two_any (n : Nat) (hn : n ≤ 9999) (w : World) :
    Calls Tryd.prog 20 #[.int .i64 n] w fun e w' => e = .returned (.string (ddT n)) ∧ Below w.heap.size w w' := by
  obtain ⟨a, ha⟩ : ∃ a : Nat, a = n / 10 % 10 := ⟨_, rfl⟩
  obtain ⟨b, hb⟩ : ∃ b : Nat, b = n % 10 := ⟨_, rfl⟩
  obtain ⟨A, lA, zA, slA⟩ := slice_ten7 a (by omega)
  obtain ⟨B, lB, zB, slB⟩ := slice_ten7 b (by omega)
  have hfin := hid (show A ++ B = ddT n from bytes_ext7 (by rw [cat7, lA, lB, ddT_l, ha, hb]; rfl))
  have hadd : ∀ V, (Op.stringOp .add A B).run Tryd.prog V = .ok (.string (A ++ B)) V := fun V => run_string_add V _ _ (by omega) (by omega)
  obtain ⟨m, hm⟩ : ∃ m : Nat, m = n / 10 := ⟨_, rfl⟩
  have t1 : (n : Int).tdiv 10 = (m : Int) := by rw [Int.tdiv_eq_ediv_of_nonneg (by omega)]; omega
  have t2 : (m : Int).tmod 10 = (a : Int) := by rw [Int.tmod_eq_emod_of_nonneg (by omega)]; omega
  have t3 : (n : Int).tmod 10 = (b : Int) := by rw [Int.tmod_eq_emod_of_nonneg (by omega)]; omega
  have u1 : (n : Int) / 10 = (m : Int) := by omega
  have u2 : (m : Int) % 10 = (a : Int) := by omega
  have u3 : (n : Int) % 10 = (b : Int) := by omega
  have v0 : IntKind.i64.wrap (m : Int) = (m : Int) := IntWalk.i64_in _ (by omega)
  have v1 : IntKind.i64.wrap ((a : Int) + 1) = (a : Int) + 1 := IntWalk.i64_in _ (by omega)
  have v2 : IntKind.i64.wrap ((b : Int) + 1) = (b : Int) + 1 := IntWalk.i64_in _ (by omega)
  have ba : a < 10 := by omega
  have bb : b < 10 := by omega
  clear ha hb hm lA lB
  go_enter Tryd.func20, Tryd.ntmps20
  go_wp2_with fail
  go_region_held3 (fun w' => Below w.heap.size w w') (first
      | exact below_chain ‹_› ‹_›
      | exact (Below.refl _ _).drew)
    (fail)
  rename_i hH
  have HB := hid hH
  clear hH slA slB hadd
  go_wp2
  go_ret
  exact ⟨ret_val (by rw [← hfin.out]; rfl), HB.out⟩
end Go.Proofs.YtnkfgedpdokcpaaDoor
