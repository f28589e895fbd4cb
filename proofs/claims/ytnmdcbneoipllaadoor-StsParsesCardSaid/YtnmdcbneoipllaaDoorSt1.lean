/- Walks: sts.Text and the reference's. -/
import Derived.Test.YtnmdcbneoipllaaDoorShelf
import Derived.Test.YtnmdcbneoipllaaDoorBase
import Derived.Test.YtnmdcbneoipllaaDoorLaid
import Derived.Lib.ItoaLen
import Derived.Lib.AppendIntMem
import Derived.Deep.QuietTactic
import Derived.BigQuiet
import Derived.IntWalk
import Derived.Deep.RegionHeld3
namespace Go.Proofs.YtnmdcbneoipllaaDoor
open Go.RowKit Go.Lib

/-- What the law takes of a world: the variables' shapes, the table of powers of ten. -/
def Good (w : World) : Prop := w.ShapedOpen Tryd.prog ∧ Lib.TabIs Tryd.prog w "internal/strconv.uint64pow10" .u64 Lib.pow10Tab
theorem Good.below {w w' : World} (h : Good w) (hb : Below w.heap.size w w') : Good w' := by
  obtain ⟨hs, ht⟩ := h
  exact ⟨hs.keptBut (hb.frame (fun _ => False)) (fun _ h => h.elim), Lib.tabBelow_of_tabIs ht w' hb⟩
theorem ret_val {a b : Value} (h : a = b) : Ending.returned a = .returned b := by rw [h]
theorem bytes_ext {a b : ByteArray} (h : a.data.toList = b.data.toList) : a = b := by
  cases a; cases b; simp at h; rw [h]
theorem cat_l (s t : ByteArray) : (s ++ t).data.toList = s.data.toList ++ t.data.toList := by simp [ByteArray.data_append]

/-- A number's decimal digits, as a text. -/
def decT (n : Nat) : ByteArray := ⟨(Lib.decDigits n).toArray⟩
theorem decT_l (n : Nat) : (decT n).data.toList = Lib.decDigits n := by simp [decT]
theorem decT_size {n : Nat} (h : n < 18446744073709551616) : (decT n).size ≤ 20 := by
  rw [Lib.size_eq, decT_l, Lib.decDigits_length]; exact Lib.nDigits_le20 n h
theorem itoaA (n : Nat) (h1 : n ≤ 9223372036854775807) (w : World) (G : Good w) :
    Calls Tryd.prog 21 #[.int .i64 n] w fun e w' => e = .returned (.string (decT n)) ∧ Below w.heap.size w w' := by
  refine (Tryd.strconv_Itoa (n : Int) (by omega) (by omega) w G.2).mono ?_
  rintro e w' ⟨he, k, os, rfl⟩
  refine ⟨by rw [he, Lib.itoa_nonneg]; rfl, Lib.below_grow _ _ (Nat.le_refl _) k os⟩

def tenT : ByteArray := ⟨#[48, 49, 50, 51, 52, 53, 54, 55, 56, 57]⟩
theorem ten_at (d : Nat) (h : d < 10) (a b : Nat) (ha : a = d) (hb : b = d + 1) : (tenT.extract a b).data.toList = [UInt8.ofNat (48 + d)] := by
  rw [ha, hb]
  have : ∀ d < 10, (tenT.extract d (d + 1)).data.toList = [UInt8.ofNat (48 + d)] := by decide +kernel
  exact this d h
theorem slice_ten (d : Nat) (h : d < 10) : ∃ T : ByteArray, T.data.toList = [UInt8.ofNat (48 + d)] ∧ T.size = 1 ∧ ∀ V, (Instr.slice 9 (.string ⟨#[48, 49, 50, 51, 52, 53, 54, 55, 56, 57]⟩) (some (.int .i64 (d : Int))) (some (.int .i64 ((d : Int) + 1))) none).run Tryd.prog V = .ok (.string T) V := by
  have hl := ten_at d h (d : Int).toNat ((d : Int) + 1).toNat (by omega) (by omega)
  exact ⟨_, hl, by rw [Lib.size_eq, hl]; rfl, fun V => run_slice_string V _ _ _ _ _ _ Tryd.underlying9 (by omega) (by omega) (by show (d : Int) + 1 ≤ 10; omega)⟩

set_option maxHeartbeats 1000000 in
set_option maxRecDepth 100000 in
theorem digitsR_any (n : Nat) : n ≤ 2147483647 → ∀ w : World,
    Calls Tryd.prog 22 #[.int .i64 n] w fun e w' => e = .returned (.string (decT n)) ∧ Below w.heap.size w w' := by
  induction n using Nat.strongRecOn with
  | _ n ih =>
    intro hn w
    by_cases h : n < 10
    · obtain ⟨P, lP, zP, slP⟩ := slice_ten n h
      have hfin := hid (show P = decT n from bytes_ext (by rw [lP, decT_l, Lib.decDigits_one h]))
      have v2 : IntKind.i64.wrap ((n : Int) + 1) = (n : Int) + 1 := IntWalk.i64_in _ (by omega)
      clear lP ih
      go_enter Tryd.func22, Tryd.ntmps22
      go_wp2
      go_ret
      exact ⟨ret_val (by rw [← hfin.out]; rfl), Below.refl _ _⟩
    · obtain ⟨p, hp⟩ : ∃ p : Nat, p = n / 10 := ⟨_, rfl⟩
      obtain ⟨q, hq⟩ : ∃ q : Nat, q = n % 10 := ⟨_, rfl⟩
      have IH := hid (ih p (by omega) (by omega))
      obtain ⟨Q, lQ, zQ, slQ⟩ := slice_ten q (by omega)
      have hfin := hid (show decT p ++ Q = decT n from bytes_ext (by rw [cat_l, lQ, decT_l, decT_l, hp, hq, Lib.decDigits.eq_def n, dif_neg h]))
      have zD : ((decT p).size : Int) ≤ 8388608 := by have := decT_size (n := p) (by omega); omega
      have zQ' : (Q.size : Int) ≤ 8388608 := by omega
      have hadd : ∀ V, (Op.stringOp .add (decT p) Q).run Tryd.prog V = .ok (.string (decT p ++ Q)) V := fun V => run_string_add V _ _ zD zQ'
      have t1 : (n : Int).tdiv 10 = (p : Int) := by rw [Int.tdiv_eq_ediv_of_nonneg (by omega)]; omega
      have t2 : (n : Int).tmod 10 = (q : Int) := by rw [Int.tmod_eq_emod_of_nonneg (by omega)]; omega
      have u1 : (n : Int) / 10 = (p : Int) := by omega
      have u2 : (n : Int) % 10 = (q : Int) := by omega
      have v1 : IntKind.i64.wrap (p : Int) = (p : Int) := IntWalk.i64_in _ (by omega)
      have v3 : IntKind.i64.wrap ((q : Int) + 1) = (q : Int) + 1 := IntWalk.i64_in _ (by omega)
      have bq : q < 10 := by omega
      clear lQ hp hq ih
      go_enter Tryd.func22, Tryd.ntmps22
      go_wp2_with fail
      go_region_held3 (fun w' => Below w.heap.size w w') (first
          | exact below_chain ‹_› ‹_›
          | exact (Below.refl _ _).drew)
        (first
          | (go_at_call 22; refine (IH.out _).mono ?_; rintro e w1 ⟨rfl, hb1⟩))
      rename_i hH
      have HB := hid hH
      clear hH slQ hadd
      go_wp2
      go_ret
      exact ⟨ret_val (by rw [← hfin.out]; rfl), HB.out⟩

def headT : ByteArray := ⟨#[109, 97, 120, 45, 97, 103, 101, 61]⟩
def subsT : ByteArray := ⟨#[59, 32, 105, 110, 99, 108, 117, 100, 101, 83, 117, 98, 68, 111, 109, 97, 105, 110, 115]⟩
/-- The text of a wish. -/
def wishT (n : Nat) (b : Bool) : ByteArray := bif b then headT ++ decT n ++ subsT else headT ++ decT n

theorem textA_yes (n : Nat) (b : Bool) (h : n ≤ 2147483647) (w : World) (G : Good w) :
    Calls Tryd.prog 10 #[.agg #[.int .i64 n, .bool b]] w fun e w' => e = .returned (.tuple #[.string (wishT n b), .int .i64 0]) ∧ Below w.heap.size w w' := by
  have zD := decT_size (n := n) (by omega)
  have HI := hid (fun w G => itoaA n (by omega) w G)
  have hG := hid G
  cases b with
  | true =>
    go_enter Tryd.func10, Tryd.ntmps10
    go_wp2_with fail
    refine (HI.out _ (hG.out.below ((Below.refl _ _).alloc (Nat.le_refl _) _))).mono ?_
    rintro e w1 ⟨rfl, hb1⟩
    have hc : w1.cell? ⟨w.heap.size, 1, none⟩ = some (.bool true) := (hb1.cell (p := ⟨w.heap.size, 1, none⟩) (by simp)).trans (by rw [World.cell?_alloc_at _ _ _ _ rfl]; rfl)
    have B1 := hid (below_chain ((Below.refl _ _).alloc (Nat.le_refl _) _) hb1)
    clear hb1
    go_wp2
    go_ret2
    exact ⟨rfl, B1.out⟩
  | false =>
    go_enter Tryd.func10, Tryd.ntmps10
    go_wp2_with fail
    refine (HI.out _ (hG.out.below ((Below.refl _ _).alloc (Nat.le_refl _) _))).mono ?_
    rintro e w1 ⟨rfl, hb1⟩
    have hc : w1.cell? ⟨w.heap.size, 1, none⟩ = some (.bool false) := (hb1.cell (p := ⟨w.heap.size, 1, none⟩) (by simp)).trans (by rw [World.cell?_alloc_at _ _ _ _ rfl]; rfl)
    have B1 := hid (below_chain ((Below.refl _ _).alloc (Nat.le_refl _) _) hb1)
    clear hb1
    go_wp2
    go_ret2
    exact ⟨rfl, B1.out⟩
theorem textR_yes (n : Nat) (b : Bool) (h : n ≤ 2147483647) (w : World) :
    Calls Tryd.prog 11 #[.agg #[.int .i64 n, .bool b]] w fun e w' => e = .returned (.tuple #[.string (wishT n b), .int .i64 0]) ∧ Below w.heap.size w w' := by
  have zD := decT_size (n := n) (by omega)
  have HI := hid (fun w => digitsR_any n h w)
  cases b with
  | true =>
    go_enter Tryd.func11, Tryd.ntmps11
    go_wp2_with fail
    refine (HI.out _).mono ?_
    rintro e w1 ⟨rfl, hb1⟩
    have hc : w1.cell? ⟨w.heap.size, 1, none⟩ = some (.bool true) := (hb1.cell (p := ⟨w.heap.size, 1, none⟩) (by simp)).trans (by rw [World.cell?_alloc_at _ _ _ _ rfl]; rfl)
    have B1 := hid (below_chain ((Below.refl _ _).alloc (Nat.le_refl _) _) hb1)
    clear hb1
    go_wp2
    go_ret2
    exact ⟨rfl, B1.out⟩
  | false =>
    go_enter Tryd.func11, Tryd.ntmps11
    go_wp2_with fail
    refine (HI.out _).mono ?_
    rintro e w1 ⟨rfl, hb1⟩
    have hc : w1.cell? ⟨w.heap.size, 1, none⟩ = some (.bool false) := (hb1.cell (p := ⟨w.heap.size, 1, none⟩) (by simp)).trans (by rw [World.cell?_alloc_at _ _ _ _ rfl]; rfl)
    have B1 := hid (below_chain ((Below.refl _ _).alloc (Nat.le_refl _) _) hb1)
    clear hb1
    go_wp2
    go_ret2
    exact ⟨rfl, B1.out⟩
theorem textA_no (n : Int) (b : Bool) (h : ¬ (0 ≤ n ∧ n ≤ 2147483647)) (w : World) :
    Calls Tryd.prog 10 #[.agg #[.int .i64 n, .bool b]] w fun e w' => e = .returned (.tuple #[.string ⟨#[]⟩, .int .i64 1]) ∧ Below w.heap.size w w' := by
  by_cases h0 : n < 0
  · go_enter Tryd.func10, Tryd.ntmps10
    go_wp2
    go_ret2
    exact ⟨rfl, (Below.refl _ _).alloc (Nat.le_refl _) _⟩
  · have h1 : n > 2147483647 := by omega
    clear h
    go_enter Tryd.func10, Tryd.ntmps10
    go_wp2
    go_ret2
    exact ⟨rfl, (Below.refl _ _).alloc (Nat.le_refl _) _⟩
theorem textR_no (n : Int) (b : Bool) (h : ¬ (0 ≤ n ∧ n ≤ 2147483647)) (w : World) :
    Calls Tryd.prog 11 #[.agg #[.int .i64 n, .bool b]] w fun e w' => e = .returned (.tuple #[.string ⟨#[]⟩, .int .i64 1]) ∧ Below w.heap.size w w' := by
  by_cases h0 : n < 0
  · go_enter Tryd.func11, Tryd.ntmps11
    go_wp2
    go_ret2
    exact ⟨rfl, (Below.refl _ _).alloc (Nat.le_refl _) _⟩
  · have h1 : n > 2147483647 := by omega
    clear h
    go_enter Tryd.func11, Tryd.ntmps11
    go_wp2
    go_ret2
    exact ⟨rfl, (Below.refl _ _).alloc (Nat.le_refl _) _⟩
theorem text_both (n : Int) (b : Bool) : ∃ (T : ByteArray) (o : Int), (∀ w, Good w → Calls Tryd.prog 10 #[.agg #[.int .i64 n, .bool b]] w fun e w' => e = .returned (.tuple #[.string T, .int .i64 o]) ∧ Below w.heap.size w w') ∧
    ∀ w, Calls Tryd.prog 11 #[.agg #[.int .i64 n, .bool b]] w fun e w' => e = .returned (.tuple #[.string T, .int .i64 o]) ∧ Below w.heap.size w w' := by
  by_cases h : 0 ≤ n ∧ n ≤ 2147483647
  · obtain ⟨m, rfl⟩ := Int.eq_ofNat_of_zero_le h.1
    have hm : m ≤ 2147483647 := by omega
    exact ⟨_, _, fun w G => textA_yes m b hm w G, fun w => textR_yes m b hm w⟩
  · exact ⟨_, _, fun w _ => textA_no n b h w, fun w => textR_no n b h w⟩
end Go.Proofs.YtnmdcbneoipllaaDoor
