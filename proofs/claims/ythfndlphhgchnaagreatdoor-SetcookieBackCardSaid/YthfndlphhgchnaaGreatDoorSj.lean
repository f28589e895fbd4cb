/- Walk: chapter 10's size of a cookie; and the bound on the cookie's texts. -/
import Derived.Test.YthfndlphhgchnaaGreatDoorSf
import Derived.Test.YthfndlphhgchnaaGreatDoorBeyond
namespace Go.Proofs.YthfndlphhgchnaaGreatDoor
open Go.RowKit Go.Lib Go.Proofs.Foot

def sizeC (t : CkT) : Nat := t.name.length + t.value.length + t.domain.length + t.path.length
/-- A cookie whose texts are no longer than any text that can be. -/
structure ReachC (t : CkT) : Prop where
  name : t.name.length ≤ 140737488351232
  value : t.value.length ≤ 140737488351232
  domain : t.domain.length ≤ 140737488351232
  path : t.path.length ≤ 140737488351232
set_option maxHeartbeats 1000000 in
set_option maxRecDepth 100000 in
theorem size_any (t : CkT) (hr : ReachC t) (w : World) :
    Calls Tryz.prog 17 #[.agg (rowC t)] w fun e w' => e = .returned (.int .i64 (sizeC t : Nat)) ∧ Below w.heap.size w w' := by
  obtain ⟨C, hC⟩ : ∃ C, C = rowC t := ⟨_, rfl⟩
  rw [← hC]
  have W0 := hid ((Cks.start w).box hC)
  have r := W0.out.at (g := w.heap.size) (t := t) (by simp)
  have hz : sizeC t = (tx t.name).size + (tx t.value).size + (tx t.domain).size + (tx t.path).size := by rw [tx_size, tx_size, tx_size, tx_size]; rfl
  have z1 : (tx t.name).size ≤ 140737488351232 := by rw [tx_size]; exact hr.name
  have z2 : (tx t.value).size ≤ 140737488351232 := by rw [tx_size]; exact hr.value
  have z3 : (tx t.domain).size ≤ 140737488351232 := by rw [tx_size]; exact hr.domain
  have z4 : (tx t.path).size ≤ 140737488351232 := by rw [tx_size]; exact hr.path
  have v1 : IntKind.i64.wrap (((tx t.name).size : Int) + (tx t.value).size) = ((tx t.name).size : Int) + (tx t.value).size := IntWalk.i64_in _ (by omega)
  have v2 : IntKind.i64.wrap (((tx t.name).size : Int) + (tx t.value).size + (tx t.domain).size) = ((tx t.name).size : Int) + (tx t.value).size + (tx t.domain).size := IntWalk.i64_in _ (by omega)
  have v3 : IntKind.i64.wrap (((tx t.name).size : Int) + (tx t.value).size + (tx t.domain).size + (tx t.path).size) = ((tx t.name).size : Int) + (tx t.value).size + (tx t.domain).size + (tx t.path).size := IntWalk.i64_in _ (by omega)
  have hfin := hid (show ((tx t.name).size : Int) + (tx t.value).size + (tx t.domain).size + (tx t.path).size = (sizeC t : Nat) by rw [hz]; push_cast; rfl)
  have hblk : Blk (w.alloc (.cells C 24)) w.heap.size 24 (rowC t) := by rw [hC]; exact Blk.first w _ _
  clear hz hr hC r
  go_enter Tryz.func17, Tryz.ntmps17
  go_upto_region 1 with fail
  generalize w.alloc _ = w1 at *
  have c0 : w1.cell? ⟨w.heap.size, 0, none⟩ = some (.string (tx t.name)) := hblk.cell rfl
  have c1 : w1.cell? ⟨w.heap.size, 1, none⟩ = some (.string (tx t.value)) := hblk.cell rfl
  have c2 : w1.cell? ⟨w.heap.size, 2, none⟩ = some (.string (tx t.domain)) := hblk.cell rfl
  have c3 : w1.cell? ⟨w.heap.size, 3, none⟩ = some (.string (tx t.path)) := hblk.cell rfl
  clear hblk
  go_wp2
  go_ret
  exact ⟨congrArg (fun x => Ending.returned (.int .i64 x)) hfin.out, W0.out.below⟩
/-- A cookie out of its cells. -/
def toC (n v d p : ByteArray) (x : Int) (hx : Bool) (a : Int) (ha s h : Bool) (k : Int) : CkT := ⟨n.data.toList, v.data.toList, d.data.toList, p.data.toList, x, hx, a, ha, s, h, k.toNat⟩
theorem toC_row {n v d p : ByteArray} {x : Int} {hx : Bool} {a : Int} {ha s h : Bool} {k : Int} (hk : (Lit.int .u8 k).wf = true) :
    (#[.string n, .string v, .string d, .string p, .int .i64 x, .bool hx, .int .i64 a, .bool ha, .bool s, .bool h, .int .u8 k] : Array Value) = rowC (toC n v d p x hx a ha s h k) := by
  have h0 := (wf_bounds hk).1
  have e0 : IntKind.u8.min = 0 := rfl
  rw [e0] at h0
  have e : ((k.toNat : Nat) : Int) = k := by omega
  unfold rowC toC
  simp only [tx_of, e]
theorem toC_wf {n v d p : ByteArray} {x : Int} {hx : Bool} {a : Int} {ha s h : Bool} {k : Int} (zn : n.size ≤ 140737488351232) (zv : v.size ≤ 140737488351232) (zd : d.size ≤ 140737488351232) (zp : p.size ≤ 140737488351232)
    (h1 : (Lit.int .i64 x).wf = true) (h2 : (Lit.int .i64 a).wf = true) (hk : (Lit.int .u8 k).wf = true) : WfC (toC n v d p x hx a ha s h k) ∧ ReachC (toC n v d p x hx a ha s h k) := by
  have h0 := (wf_bounds hk).1
  have h3 := (wf_bounds hk).2
  have e0 : IntKind.u8.min = 0 := rfl
  have e1 : IntKind.u8.max = 255 := rfl
  rw [e0] at h0
  rw [e1] at h3
  rw [Lib.size_eq] at zn zv zd zp
  exact ⟨⟨by show n.data.toList.length ≤ _; unfold maxLen; omega, by show v.data.toList.length ≤ _; unfold maxLen; omega, by show d.data.toList.length ≤ _; unfold maxLen; omega, by show p.data.toList.length ≤ _; unfold maxLen; omega, h1, h2, by show k.toNat < 256; omega⟩, ⟨zn, zv, zd, zp⟩⟩
end Go.Proofs.YthfndlphhgchnaaGreatDoor
