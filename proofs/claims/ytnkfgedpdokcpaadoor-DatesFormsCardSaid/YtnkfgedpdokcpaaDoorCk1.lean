/- Walk: dates' number; what its callees answer. -/
import Derived.Test.YtnkfgedpdokcpaaDoorShelf
import Derived.Test.YtnkfgedpdokcpaaDoorBase
import Derived.Test.YtnkfgedpdokcpaaDoorSpec07b
import Derived.Test.YtnkfgedpdokcpaaDoorLaid
import Derived.Shelf.Strings.SlTrimAscii
import Derived.Shelf.Strconv.ErrVarAll
import Derived.Lib.AppendIntMem
import Derived.Deep.QuietTactic
import Derived.BigQuiet
namespace Go.Proofs.YtnkfgedpdokcpaaDoor
open Go.RowKit Go.Lib Go.Proofs.Foot

/-- What the laws take of a world: the variables' shapes, an error in each of two variables, the table of powers of ten. -/
def Good (w : World) : Prop := w.ShapedOpen Tryd.prog ∧ (∃ te pe, w.cell? ⟨2, 0, none⟩ = some (.iface te pe)) ∧ (∃ te pe, w.cell? ⟨3, 0, none⟩ = some (.iface te pe)) ∧ Lib.TabIs Tryd.prog w "internal/strconv.uint64pow10" .u64 Lib.pow10Tab
theorem Good.below {w w' : World} (h : Good w) (hb : Below w.heap.size w w') : Good w' := by
  obtain ⟨hs, ⟨te, pe, hc⟩, ⟨te2, pe2, hc2⟩, ht⟩ := h
  exact ⟨hs.keptBut (hb.frame (fun _ => False)) (fun _ h => h.elim), ⟨te, pe, (hb.cell (Lib.lt_of_cell hc)).trans hc⟩, ⟨te2, pe2, (hb.cell (Lib.lt_of_cell hc2)).trans hc2⟩,
    Lib.tabBelow_of_tabIs ht w' hb⟩

theorem trimLD (s : ByteArray) (w : World) (T : ByteArray) (hT : restP s.data.toList = T.data.toList) :
    Calls Tryd.prog 52 #[.string s, .string ⟨#[48, 49, 50, 51, 52, 53, 54, 55, 56, 57]⟩] w fun e w' => e = .returned (.string T) ∧ Below w.heap.size w w' := by
  have h := Any.strings_TrimLeft_laid Tryd.lays161 (by kernel_rfl) s ⟨#[48, 49, 50, 51, 52, 53, 54, 55, 56, 57]⟩ w (by decide) (ascii_of_all (by decide +kernel))
  have e : Lib.trimLeftS s.data.toList (⟨#[48, 49, 50, 51, 52, 53, 54, 55, 56, 57]⟩ : ByteArray).data.toList = T.data.toList := (restP_trim _).trans hT
  rw [e] at h
  exact h

theorem pu_all (l : List UInt8) (hd : ∀ c ∈ l, digB c = true) : ∀ acc, (∃ u, Lib.parseUint10 acc l = .ok u) ∨ Lib.parseUint10 acc l = .range := by
  induction l with
  | nil => intro acc; exact .inl ⟨acc, rfl⟩
  | cons c l ih =>
    intro acc
    have hc := (digB_iff _).1 (hd c (by simp))
    rw [Lib.parseUint10, if_pos hc]
    split
    · exact .inr rfl
    · split
      · exact .inr rfl
      · exact ih (fun d hm => hd d (List.mem_cons_of_mem _ hm)) _
/-- strconv.Atoi of digits: a number, or it is out of range. -/
theorem atoi_all {l : List UInt8} (hne : l ≠ []) (hd : ∀ c ∈ l, digB c = true) : (∃ v, Lib.atoiAll l = .ok v) ∨ Lib.atoiAll l = .range := by
  match l, hne with
  | c :: r, _ =>
    have hc := (digB_iff _).1 (hd c (by simp))
    have hm : Lib.parseMag (c :: r) = Lib.parseUint10 0 (c :: r) := by unfold Lib.parseMag; rw [if_neg (by simp)]
    unfold Lib.atoiAll
    simp only [show ¬ (c.toNat = 43 ∨ c.toNat = 45) from by omega, if_false, hm]
    rcases pu_all (c :: r) hd 0 with ⟨u, hu⟩ | hu
    · rw [hu]
      simp only
      split
      · exact .inr rfl
      · split
        · exact .inr rfl
        · exact .inl ⟨_, rfl⟩
    · rw [hu]; exact .inr rfl

/-- What strconv.Atoi answers to digits (or to nothing). -/
def AtoiR (l : List UInt8) (w : World) (e : Ending) (w' : World) : Prop :=
  ∃ (v : Int) (er : Value), e = .returned (.tuple #[.int .i64 v, er]) ∧ ((er = .nilIface ∧ Lib.atoiAll l = .ok v) ∨ ((∃ t p, er = .iface t p) ∧ ∀ u, Lib.atoiAll l ≠ .ok u)) ∧ Below w.heap.size w w'
theorem atoi_digits (s : ByteArray) (w : World) (hs : s.size ≤ 16777216) (hd : ∀ c ∈ s.data.toList, digB c = true) (G : Good w) :
    Calls Tryd.prog 53 #[.string s] w (AtoiR s.data.toList w) := by
  obtain ⟨_, ⟨te, pe, hc⟩, ⟨te2, pe2, hc2⟩, _⟩ := G
  by_cases hne : s.data.toList = []
  · have h : Lib.atoiAll s.data.toList = Lib.atoiAll [] := by rw [hne]
    refine (Tryd.strconv_Atoi_syntax s (by omega) h _ w hc (.inr ⟨te, pe, rfl⟩)).mono ?_
    rintro e w' ⟨N, he, _, _, hb⟩
    exact ⟨0, _, he, .inr ⟨⟨_, _, rfl⟩, fun u hu => by rw [h] at hu; simp [Lib.atoiAll] at hu⟩, hb⟩
  · rcases atoi_all hne hd with ⟨v, hv⟩ | h
    · refine (Tryd.strconv_Atoi_ok s (by omega) v hv w).mono ?_
      rintro e w' ⟨he, hw⟩
      refine ⟨v, _, he, .inl ⟨rfl, hv⟩, ?_⟩
      rcases hw with rfl | ⟨t, rfl⟩
      · exact Below.refl _ _
      · exact Lib.bytesWorld_below _ _ t
    · refine (Tryd.strconv_Atoi_range s (by omega) h _ w hc2 (.inr ⟨te2, pe2, rfl⟩)).mono ?_
      rintro e w' ⟨N, he, _, _, hb⟩
      exact ⟨_, _, he, .inr ⟨⟨_, _, rfl⟩, fun u hu => by rw [h] at hu; cases hu⟩, hb⟩

/-- What number answers. -/
def NumR (n : Option Nat) (R : ByteArray) (o : Bool) (w : World) (e : Ending) (w' : World) : Prop :=
  ∃ v : Int, e = .returned (.tuple #[.int .i64 v, .string R, .bool o]) ∧ (∀ k, n = some k → v = k) ∧ Below w.heap.size w w'

set_option maxHeartbeats 1000000 in
set_option maxRecDepth 100000 in
theorem number_any (s : ByteArray) (a b : Nat) (A B : Int) (hA : A = a) (hB : B = b) (hb4 : b ≤ 4) (ha1 : 1 ≤ a) (hs : s.size ≤ 16777216) (R : ByteArray) (hR : restP s.data.toList = R.data.toList) (o : Bool) (ho : (numP s.data.toList a b).isSome = o) (w : World) (G : Good w) :
    Calls Tryd.prog 43 #[.string s, .int .i64 A, .int .i64 B] w (NumR (numP s.data.toList a b) R o w) := by
  subst hA hB
  have hl := restP_length s.data.toList
  rw [hR, ← Lib.size_eq, ← Lib.size_eq] at hl
  obtain ⟨k, hk⟩ : ∃ k, k = (digsP s.data.toList).length := ⟨_, rfl⟩
  rw [← hk] at hl
  have hle : R.size ≤ s.size := by omega
  have hks : k ≤ s.size := by omega
  have hkk : (s.size : Int) - (R.size : Int) = (k : Int) := by omega
  have hx : (s.extract 0 k).data.toList = digsP s.data.toList := by
    rw [extract_eq]; simp only [List.drop_zero, Nat.sub_zero]; rw [hk]; exact digsP_take _
  have hxs : (s.extract 0 k).size ≤ 16777216 := by rw [Lib.size_eq, hx, ← hk]; omega
  have HT := hid (fun w => trimLD s w R hR)
  have HX := hid hx
  have HA := hid (fun w (G : Good w) => atoi_digits (s.extract 0 k) w hxs (by rw [hx]; exact digsP_all _) G)
  have G' := hid G
  by_cases hn : a ≤ k ∧ k ≤ b
  · obtain ⟨n1, n2⟩ := hn
    have hsome := numP_yes (l := s.data.toList) (a := a) (b := b) (by rw [← hk]; exact ⟨n1, n2⟩)
    have hat := atoi_digs (l := digsP s.data.toList) (by intro e; rw [e] at hk; simp at hk; omega) (digsP_all _) (by omega)
    rw [hsome] at ho ⊢
    obtain rfl : o = true := ho.symm
    have Hat := hid hat
    have Hk := hid hk
    clear hl hk hx hxs hsome hat hR G ho
    go_enter Tryd.func43, Tryd.ntmps43
    go_wp2_with (go_at_call 52; refine (HT.out _).mono ?_; rintro e w1 ⟨rfl, hb1⟩)
    refine (HA.out _ (G'.out.below hb1)).mono ?_
    rintro e w2 ⟨v, er, rfl, hr, hb2⟩
    rw [HX.out, Hat.out] at hr
    obtain ⟨rfl, hv⟩ : er = .nilIface ∧ v = digV 0 (digsP s.data.toList) := by
      rcases hr with ⟨h1, h2⟩ | ⟨_, h2⟩
      · injection h2 with h2; exact ⟨h1, h2.symm⟩
      · exact absurd rfl (h2 _)
    have Hv := hid hv
    have Hb := hid (below_chain hb1 hb2)
    clear hv hr hb1 hb2
    have d1 : decide (a ≤ k) = true := decide_eq_true n1
    have d2 : decide (k ≤ b) = true := decide_eq_true n2
    go_wp2
    go_quiet (fail)
    go_wp2
    go_ret3
    exact ⟨v, rfl, fun k h => by injection h with h; rw [← h]; exact Hv.out, below_drewN Hb.out _⟩
  · have hnone := numP_no (l := s.data.toList) (a := a) (b := b) (by rw [← hk]; exact hn)
    rw [hnone] at ho ⊢
    obtain rfl : o = false := ho.symm
    clear hl hk hx hxs hnone hR G ho
    by_cases n1 : a ≤ k
    · have n2 : ¬ k ≤ b := fun h => hn ⟨n1, h⟩
      have d1 : decide (a ≤ k) = true := decide_eq_true n1
      have d2 : decide (k ≤ b) = false := decide_eq_false n2
      clear hn
      go_enter Tryd.func43, Tryd.ntmps43
      go_wp2_with (go_at_call 52; refine (HT.out _).mono ?_; rintro e w1 ⟨rfl, hb1⟩)
      refine (HA.out _ (G'.out.below hb1)).mono ?_
      rintro e w2 ⟨v, er, rfl, hr, hb2⟩
      have Hb := hid (below_chain hb1 hb2)
      clear hr hb1 hb2
      go_wp2
      go_quiet (fail)
      go_wp2
      go_ret3
      exact ⟨v, rfl, (fun k h => by cases h), below_drewN Hb.out _⟩
    · have d1 : decide (a ≤ k) = false := decide_eq_false n1
      clear hn
      go_enter Tryd.func43, Tryd.ntmps43
      go_wp2_with (go_at_call 52; refine (HT.out _).mono ?_; rintro e w1 ⟨rfl, hb1⟩)
      refine (HA.out _ (G'.out.below hb1)).mono ?_
      rintro e w2 ⟨v, er, rfl, hr, hb2⟩
      have Hb := hid (below_chain hb1 hb2)
      clear hr hb1 hb2
      go_wp2
      go_quiet (fail)
      go_wp2
      go_ret3
      exact ⟨v, rfl, (fun k h => by cases h), below_drewN Hb.out _⟩
end Go.Proofs.YtnkfgedpdokcpaaDoor
