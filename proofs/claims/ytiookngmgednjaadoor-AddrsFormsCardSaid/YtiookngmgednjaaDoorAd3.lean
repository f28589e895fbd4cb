/- Walk: addrs.Text of four bytes. -/
import Derived.Test.YtiookngmgednjaaDoorAd2
import Derived.Test.YtiookngmgednjaaDoorAppS
import Derived.Lib.ItoaLen
import Derived.Lib.AppendIntMem
namespace Go.Proofs.YtiookngmgednjaaDoor
open Go.RowKit Go.Lib

/-- What the walks take of a world. -/
def GoodA (w : World) : Prop := Lib.TabIs Tryd.prog w "internal/strconv.uint64pow10" .u64 Lib.pow10Tab ∧ w.cell? ⟨3, 15, none⟩ = some (.int .u8 4)
theorem GoodA.below {w w' : World} (h : GoodA w) (hb : Below w.heap.size w w') : GoodA w' :=
  ⟨Lib.tabBelow_of_tabIs h.1 w' hb, (hb.cell (Lib.lt_of_cell h.2)).trans h.2⟩
theorem itoaB (n : Nat) (h : n < 65536) (w : World) (G : GoodA w) :
    Calls Tryd.prog 21 #[.int .i64 n] w fun e w' => e = .returned (.string (baseT 10 n)) ∧ Below w.heap.size w w' := by
  refine (Tryd.strconv_Itoa (n : Int) (by omega) (by omega) w G.1).mono ?_
  rintro e w' ⟨he, k, os, rfl⟩
  refine ⟨by rw [he, Lib.itoa_nonneg, baseT, baseD_10], Lib.below_grow _ _ (Nat.le_refl _) k os⟩
/-- An address as the model has it. -/
def adrC (six : Bool) (B : List UInt8) : Array Value := ⟨.bool six :: B.map (fun c => Value.int .u8 c.toNat)⟩
/-- Where an address lies. -/
structure AdrAt (w : World) (g : Nat) (six : Bool) (B : List UInt8) : Prop where
  six : w.cell? ⟨g, 0, none⟩ = some (.bool six)
  byte : ∀ (j : Nat) c, B[j]? = some c → w.cell? ⟨g, 1 + j, none⟩ = some (.int .u8 c.toNat)
theorem AdrAt.of_alloc (w : World) (six : Bool) (B : List UInt8) : AdrAt (w.alloc (.cells (adrC six B) 24)) w.heap.size six B := by
  have hr : (w.alloc (.cells (adrC six B) 24)).heap[w.heap.size]? = some (.cells (adrC six B) 24 (0, 0)) := heap_alloc_new _ _
  refine ⟨by rw [cell_of_row _ _ _ _ _ _ hr]; rfl, fun j c hj => ?_⟩
  rw [cell_of_row _ _ _ _ _ _ hr, Nat.add_comm]
  simp [adrC, hj]
theorem AdrAt.below {w w' : World} {g : Nat} {six : Bool} {B : List UInt8} {N : Nat} (h : AdrAt w g six B) (hb : Below N w w') (hg : g < N) : AdrAt w' g six B :=
  ⟨(hb.cell hg).trans h.six, fun j c hj => (hb.cell hg).trans (h.byte j c hj)⟩
/-- The parts told so far. -/
def tells (b : Nat) (l : List UInt8) : List ByteArray := l.map fun c => baseT b c.toNat
theorem tells_snoc {B : List UInt8} {k : Nat} {c : UInt8} (b : Nat) (h : B[k]? = some c) : tells b (B.take (k + 1)) = tells b (B.take k) ++ [baseT b c.toNat] := by
  unfold tells
  rw [List.take_add_one, h]; simp
theorem below_keeps {w w' : World} {base : Nat} {v : Value} {l : List ByteArray} (h : w.ownsRow base 9 1 v l.length (l.map Value.string)) (hb : Below w.heap.size w w') : w'.ownsRow base 9 1 v l.length (l.map Value.string) :=
  (Touch.of_below (S := fun _ => False) hb).own h (fun _ _ h => h)
theorem tells_size {b : Nat} {l : List UInt8} {t : ByteArray} (h : t ∈ tells b l) : t.size ≤ 256 := by
  obtain ⟨c, _, rfl⟩ := List.mem_map.1 h
  have := baseT_size b c.toNat
  have := c.toNat_lt
  omega
theorem lens_le (a : Nat) (l : List (List UInt8)) (h : ∀ t ∈ l, t.length ≤ a) : Lib.lens l ≤ l.length * a := by
  induction l with
  | nil => simp [Lib.lens]
  | cons x l ih =>
    have h1 := h x (by simp)
    have h2 := ih (fun t ht => h t (by simp [ht]))
    simp only [Lib.lens, List.map_cons, List.sum_cons, List.length_cons] at h2 ⊢
    rw [Nat.succ_mul]; omega
theorem joinRow {w : World} {base : Nat} {v : Value} {l : List ByteArray} (hown : w.ownsRow base 9 1 v l.length (l.map Value.string)) (h0 : 0 < l.length) (hl : l.length ≤ 16) (hs : ∀ t ∈ l, t.size ≤ 65536) (sep : ByteArray) (hsep : sep.size ≤ 4) :
    Calls Tryd.prog 22 #[v, .string sep] w fun e w' => e = .returned (.string ⟨(Lib.join (l.map (·.data.toList)) sep.data.toList).toArray⟩) ∧ Below w.heap.size w w' := by
  rcases hown.2 with ⟨rfl, h⟩ | ⟨g, cap, cur, rfl, hb, hg, hnc, hcm, hcs, htake⟩
  · omega
  · refine Tryd.strings_Join g 0 cap l sep w (fun j x hj => ?_) (lt_of_heap hg) (by omega) hnc ?_
    · rw [Nat.zero_add, hown.cellAt j (by have := (List.getElem?_eq_some_iff.1 hj).1; omega)]
      simp [hj]
    · cases l with
      | nil => simp at h0
      | cons x r =>
        rw [List.map_cons, Lib.join_length]
        have := lens_le 65536 ((x :: r).map (·.data.toList)) (fun t ht => by
          obtain ⟨u, hu, rfl⟩ := List.mem_map.1 ht
          have := hs u hu
          rw [Lib.size_eq] at this; exact this)
        rw [List.map_cons, List.length_cons, List.length_map] at this
        rw [List.length_map]
        rw [Lib.size_eq] at hsep
        rw [List.length_cons] at hl
        have h3 : sep.data.toList.length * r.length ≤ 4 * 16 := Nat.mul_le_mul hsep (by omega)
        have h4 : (r.length + 1) * 65536 ≤ 16 * 65536 := Nat.mul_le_mul hl (Nat.le_refl _)
        omega
set_option maxHeartbeats 400000 in
set_option maxRecDepth 100000 in
theorem textA_four (B : List UInt8) (hB : B.length = 16) (w : World) (G : GoodA w) :
    Calls Tryd.prog 11 #[.agg (adrC false B)] w fun e w' => e = .returned (.string ⟨(Lib.join ((B.take 4).map fun c => baseD 10 c.toNat) [46]).toArray⟩) ∧ Below w.heap.size w w' := by
  have A0 := hid (AdrAt.of_alloc w false B)
  have B0 : Hid (Below w.heap.size w (w.alloc (.cells (adrC false B) 24))) := hid ((Below.refl _ _).alloc (Nat.le_refl _) _)
  have HG := hid (G.below B0.out)
  have Hn : w.heap.size < (w.alloc (.cells (adrC false B) 24)).heap.size := by simp
  have hsix := A0.out.six
  generalize adrC false B = C at *
  clear G
  obtain ⟨J, hJ⟩ : ∃ J : ByteArray, J = ⟨(Lib.join ((B.take 4).map fun c => baseD 10 c.toNat) [46]).toArray⟩ := ⟨_, rfl⟩
  rw [← hJ]
  have HJ := hid hJ
  clear hJ
  go_enter Tryd.func11, Tryd.ntmps11
  go_wp2_with fail
  generalize w.alloc _ = w0 at *
  clear hsix
  go_loopw [3, 16] (fun v i wr => ∃ k : Nat, k ≤ 4 ∧ i = .int .i64 k ∧ Hid (wr.ownsRow w0.heap.size 9 1 v (tells 10 (B.take k)).length ((tells 10 (B.take k)).map Value.string) ∧ Below w0.heap.size w0 wr)) (fun _ i _ => 4 - (RowKit.intOf i).toNat)
  case atStart => exact ⟨0, by omega, rfl, hid ⟨World.ownsRow_nil _ _ _ _, Below.refl _ _⟩⟩
  case round =>
    obtain ⟨k, hk, rfl, hh⟩ := hrel
    obtain ⟨hown, hbel⟩ := hh.out
    have Own := hid hown
    have Hb := hid hbel
    obtain ⟨ao, cap, hvs⟩ := slice_of_rowS hown
    have hlen : (tells 10 (B.take k)).length = k := by simp [tells]; omega
    rw [hlen] at hvs
    have Hlen := hid hlen
    clear hlen
    by_cases hk4 : k < 4
    · have hk4' : (k : Int) < 4 := by omega
      obtain ⟨c, hc⟩ : ∃ c, B[k]? = some c := ⟨B[k]'(by omega), List.getElem?_eq_getElem (by omega)⟩
      have hcell := (A0.out.below hbel Hn).byte k c hc
      have hcc := c.toNat_lt
      have HC := hid hc
      have HI := hid (itoaB c.toNat (by omega) wr (HG.out.below hbel))
      have HT := hid (tells_snoc 10 hc)
      subst hvs
      clear hh hown hbel hc
      go_wp2_with fail
      refine HI.out.mono ?_
      rintro e w3 ⟨rfl, hb3⟩
      have Own2 := hid (below_keeps Own.out hb3)
      have Hb2 := hid (below_chain Hb.out hb3)
      have hsz : w0.heap.size ≤ w3.heap.size := Hb2.out.size
      clear hb3
      go_wp2_with (at_builtin; refine appS1 rfl _ _ rfl rfl w0.heap.size (tells 10 (B.take k)) (baseT 10 c.toNat) (.slice ao k cap) rfl Own2.out rfl (by rw [Hlen.out]; omega) hsz ?_; intro v' w5 happ)
      have Happ := hid happ
      clear happ
      refine ⟨⟨k + 1, by omega, by go_num, hid ⟨?_, Happ.out.below Own2.out Hb2.out (Nat.le_refl _)⟩⟩, ?_⟩
      · rw [HT.out]; exact Happ.out.1
      · simp only [RowKit.intOf]; omega
    · have hk4' : ¬ (k : Int) < 4 := by omega
      obtain rfl : k = 4 := by omega
      subst hvs
      have hmap : (tells 10 (B.take 4)).map (·.data.toList) = (B.take 4).map fun c => baseD 10 c.toNat := by simp [tells, baseT, Function.comp_def]
      have HK : Hid (Calls Tryd.prog 22 #[.slice ao (4 : Nat) cap, .string ⟨#[46]⟩] wr fun e w' => e = .returned (.string J) ∧ Below wr.heap.size wr w') := hid (by
        have h := joinRow hown (by rw [Hlen.out]; omega) (by rw [Hlen.out]; omega) (fun t ht => Nat.le_trans (tells_size ht) (by omega)) ⟨#[46]⟩ (by decide)
        rw [hmap] at h
        rw [HJ.out]; exact h)
      clear hh hown hbel hmap
      go_wp2_with fail
      refine HK.out.mono ?_
      rintro e w3 ⟨rfl, hb3⟩
      have Hb2 := hid (below_chain Hb.out hb3)
      clear hb3
      go_wp2
      go_ret
      exact ⟨rfl, B0.out.trans (Hb2.out.mono (by omega))⟩
end Go.Proofs.YtiookngmgednjaaDoor
