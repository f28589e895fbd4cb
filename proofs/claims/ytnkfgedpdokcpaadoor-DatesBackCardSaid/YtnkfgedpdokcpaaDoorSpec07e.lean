/- A date's text in great letters (chapter 07): plain. -/
import Derived.Test.YtnkfgedpdokcpaaDoorTx3
namespace Go.Proofs.YtnkfgedpdokcpaaDoor
open Go.RowKit Go.Lib Go.Proofs.Foot

def upB (c : UInt8) : UInt8 := if 97 ≤ c.toNat ∧ c.toNat ≤ 122 then c - 32 else c
def upperL (l : List UInt8) : List UInt8 := l.map upB
theorem upB_up {c : UInt8} (h : 97 ≤ c.toNat ∧ c.toNat ≤ 122) : upB c = c - 32 := if_pos h
theorem upB_not {c : UInt8} (h : ¬ (97 ≤ c.toNat ∧ c.toNat ≤ 122)) : upB c = c := if_neg h
theorem upB_no (c : UInt8) : ¬ (97 ≤ (upB c).toNat ∧ (upB c).toNat ≤ 122) := by
  have := all_u8 (fun c => decide (¬ (97 ≤ (upB c).toNat ∧ (upB c).toNat ≤ 122))) (by decide +kernel) c
  exact of_decide_eq_true this
theorem upB_dgt {n : Nat} (h : n < 10) : upB (dgt n) = dgt n := upB_not (by rw [dgt_toNat h]; omega)
theorem up_dd (n : Nat) : (dd n).map upB = dd n := by
  simp only [dd, List.map_cons, List.map_nil]
  rw [upB_dgt (by omega), upB_dgt (by omega)]
theorem week_factsU (w : Nat) (h : w < 7) : digsP (upperL (weekName w)) = [] ∧ monthP (upperL (weekName w)) = 0 ∧ (∀ c ∈ upperL (weekName w), betB c = false) ∧ ∃ c ∈ weekName w, 97 ≤ c.toNat ∧ c.toNat ≤ 122 := by
  have : ∀ w < 7, digsP (upperL (weekName w)) = [] ∧ monthP (upperL (weekName w)) = 0 ∧ (∀ c ∈ upperL (weekName w), betB c = false) ∧ ∃ c ∈ weekName w, 97 ≤ c.toNat ∧ c.toNat ≤ 122 := by decide +kernel
  exact this w h
theorem mon_factsU (m : Nat) (h : m < 12) : digsP (upperL (monName m)) = [] ∧ monthP (upperL (monName m)) = m + 1 ∧ ∀ c ∈ upperL (monName m), betB c = false := by
  have : ∀ m < 12, digsP (upperL (monName m)) = [] ∧ monthP (upperL (monName m)) = m + 1 ∧ ∀ c ∈ upperL (monName m), betB c = false := by decide +kernel
  exact this m h
theorem text_upper (w k m y h i x : Nat) : upperL (textOf w k m y h i x) = upperL (weekName w) ++ 44 :: ([] ++ 32 :: (dd k ++ 32 :: (upperL (monName m) ++ 32 :: ((dd (y / 100) ++ dd (y % 100)) ++ 32 :: (hms h i x ++ 32 :: [71, 77, 84]))))) := by
  have e44 : upB 44 = 44 := by decide
  have e32 : upB 32 = 32 := by decide
  have e58 : upB 58 = 58 := by decide
  have e71 : upB 71 = 71 := by decide
  have e77 : upB 77 = 77 := by decide
  have e84 : upB 84 = 84 := by decide
  unfold upperL textOf hms
  simp only [List.map_append, List.map_cons, List.map_nil, up_dd, e44, e32, e58, e71, e77, e84]
theorem date_textU {w k m y h i x : Nat} (hw : w < 7) (hk : k < 100) (hm : m < 12) (hy : y < 10000) (hh : h < 100) (hi : i < 100) (hx : x < 100) :
    dateP (upperL (textOf w k m y h i x)) = ⟨some (h, i, x), some k, m + 1, some y⟩ := by
  obtain ⟨a1, a2, a3, _⟩ := week_factsU w hw
  obtain ⟨b1, b2, b3⟩ := mon_factsU m hm
  obtain ⟨c1, c2, c3⟩ := gmt_facts
  have bb : betB 32 = true := by decide
  rw [text_upper]
  unfold dateP
  rw [scan_cut a3 _ (by decide), word_idle a1 a2, scan_cut (l := []) (by simp) _ bb, word0_nil, scan_cut (dd_bet k) _ bb, word_day hk _ rfl, scan_cut b3 _ bb, word_month b1 (by omega) _ rfl,
    scan_cut (dddd_bet y) _ bb, word_year hy _ rfl, scan_cut (hms_bet h i x) _ bb, word_hms hh hi hx _ rfl, scan_end c3, word_idle c1 c2, b2]
theorem dateP_upper {n : Nat} {Y M K W : Nat} (h : DayIs (n : Int) Y M K W) : dateP (upperL (textBy n Y M K W)) = dateP (textBy n Y M K W) := by
  have a := h.w7; have b := h.k2; have c := h.m1; have c2 := h.m2; have d := h.y2
  unfold textBy
  rw [date_textU a (by omega) (by omega) (by omega) (by omega) (by omega) (by omega), date_text a (by omega) (by omega) (by omega) (by omega) (by omega) (by omega)]
theorem notText_upper (l : List UInt8) (n : Nat) : ¬ IsText (upperL l) n := by
  rintro ⟨_, Y, M, K, W, D, hT⟩
  obtain ⟨_, _, _, c, hc, h1⟩ := week_factsU W D.w7
  have hm : c ∈ upperL l := by
    rw [← hT]
    unfold textBy textOf
    exact List.mem_append_left _ hc
  obtain ⟨d, _, rfl⟩ := List.mem_map.1 hm
  exact upB_no d h1
end Go.Proofs.YtnkfgedpdokcpaaDoor
