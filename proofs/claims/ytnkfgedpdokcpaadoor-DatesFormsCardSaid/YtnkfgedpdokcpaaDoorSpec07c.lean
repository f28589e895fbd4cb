/- The plain text of a date as a header has it (chapter 07), and that it is read back. No program stands here. -/
import Derived.Test.YtnkfgedpdokcpaaDoorSpec07b
import Derived.Lib.ItoaNum
namespace Go.Proofs.Foot

def dgt (n : Nat) : UInt8 := UInt8.ofNat (48 + n)
def dd (n : Nat) : List UInt8 := [dgt (n / 10 % 10), dgt (n % 10)]
theorem dgt_toNat {n : Nat} (h : n < 10) : (dgt n).toNat = 48 + n := by unfold dgt; rw [UInt8.toNat_ofNat']; omega
theorem dgt_digB {n : Nat} (h : n < 10) : digB (dgt n) = true := by rw [digB_iff, dgt_toNat h]; omega
theorem dd_all (n : Nat) : ∀ c ∈ dd n, digB c = true := by
  intro c hc
  simp only [dd, List.mem_cons, List.mem_nil_iff, or_false] at hc
  rcases hc with rfl | rfl
  · exact dgt_digB (by omega)
  · exact dgt_digB (by omega)
theorem digV_dd {n : Nat} (h : n < 100) : digV 0 (dd n) = n := by
  unfold dd
  rw [digV_cons, digV_cons, digV_nil, dgt_toNat (by omega), dgt_toNat (by omega)]; omega
theorem digV_dddd {n : Nat} (h : n < 10000) : digV 0 (dd (n / 100) ++ dd (n % 100)) = n := by
  rw [digV_append, digV_dd (by omega)]
  unfold dd
  rw [digV_cons, digV_cons, digV_nil, dgt_toNat (by omega), dgt_toNat (by omega)]; omega
theorem digsP_all_of {l m : List UInt8} (h : ∀ c ∈ l, digB c = true) (hm : ∀ c, m.head? = some c → digB c = false) : digsP (l ++ m) = l ∧ restP (l ++ m) = m := by
  have hm1 : m.takeWhile digB = [] := by
    cases m with
    | nil => rfl
    | cons c m => rw [List.takeWhile_cons_of_neg (by rw [hm c rfl]; decide)]
  have hm2 : m.dropWhile digB = m := by
    cases m with
    | nil => rfl
    | cons c m => rw [List.dropWhile_cons_of_neg (by rw [hm c rfl]; decide)]
  refine ⟨?_, ?_⟩
  · unfold digsP; rw [List.takeWhile_append_of_pos h, hm1]; simp
  · unfold restP; rw [dropWhile_all h, hm2]
theorem digsP_self {l : List UInt8} (h : ∀ c ∈ l, digB c = true) : digsP l = l ∧ restP l = [] := by
  have := digsP_all_of (m := []) h (fun c hc => by cases hc)
  simpa using this
theorem numP_dd {n : Nat} (h : n < 100) : numP (dd n) 1 2 = some n := by
  rw [numP_yes (by rw [(digsP_self (dd_all n)).1]; simp [dd]), (digsP_self (dd_all n)).1, digV_dd h]
theorem numP_dd' {n : Nat} (h : n < 100) : numP (dd n) 2 4 = some n := by
  rw [numP_yes (by rw [(digsP_self (dd_all n)).1]; simp [dd]), (digsP_self (dd_all n)).1, digV_dd h]
theorem dddd_all (n : Nat) : ∀ c ∈ dd (n / 100) ++ dd (n % 100), digB c = true := fun c hc => by
  rcases List.mem_append.1 hc with h | h
  · exact dd_all _ c h
  · exact dd_all _ c h
theorem numP_dddd {n : Nat} (h : n < 10000) : numP (dd (n / 100) ++ dd (n % 100)) 2 4 = some n ∧ numP (dd (n / 100) ++ dd (n % 100)) 1 2 = none := by
  refine ⟨?_, ?_⟩
  · rw [numP_yes (by rw [(digsP_self (dddd_all n)).1]; simp [dd]), (digsP_self (dddd_all n)).1, digV_dddd h]
  · rw [numP_no (by rw [(digsP_self (dddd_all n)).1]; simp [dd])]
theorem clock_nil {l : List UInt8} (h : restP l = []) : clockP l = none := by
  unfold clockP; rw [h]; cases numP l 1 2 <;> rfl
theorem clock_dd (n : Nat) : clockP (dd n) = none := clock_nil (digsP_self (dd_all n)).2
theorem clock_dddd (n : Nat) : clockP (dd (n / 100) ++ dd (n % 100)) = none := clock_nil (digsP_self (dddd_all n)).2
def hms (h m x : Nat) : List UInt8 := dd h ++ 58 :: (dd m ++ 58 :: dd x)
theorem clock_hms {h m x : Nat} (hh : h < 100) (hm : m < 100) (hx : x < 100) : clockP (hms h m x) = some (h, m, x) := by
  have e0 := digsP_all_of (m := 58 :: (dd m ++ 58 :: dd x)) (dd_all h) (fun c hc => by simp at hc; subst hc; decide)
  have e1 := digsP_all_of (m := 58 :: dd x) (dd_all m) (fun c hc => by simp at hc; subst hc; decide)
  have n0 : numP (hms h m x) 1 2 = some h := by
    unfold hms
    rw [numP_yes (by rw [e0.1]; simp [dd]), e0.1, digV_dd hh]
  have n1 : numP (dd m ++ 58 :: dd x) 1 2 = some m := by
    rw [numP_yes (by rw [e1.1]; simp [dd]), e1.1, digV_dd hm]
  unfold clockP
  rw [n0]
  show (colonP (restP (dd h ++ 58 :: (dd m ++ 58 :: dd x)))).bind _ = _
  rw [e0.2]
  show ((numP (dd m ++ 58 :: dd x) 1 2).bind fun m' => (colonP (restP (dd m ++ 58 :: dd x))).bind fun l2 => (numP l2 1 2).map fun x' => (h, m', x')) = _
  rw [n1, e1.2]
  show ((numP (dd x) 1 2).map fun x' => (h, m, x')) = _
  rw [numP_dd hx]; rfl

/-- Bytes that stand in words: none between. -/
theorem dgt_bet {n : Nat} (h : n < 10) : betB (dgt n) = false := by
  cases hb : betB (dgt n) with
  | false => rfl
  | true => have := (betB_iff _).1 hb; rw [dgt_toNat h] at this; omega
theorem dd_bet (n : Nat) : ∀ c ∈ dd n, betB c = false := by
  intro c hc
  simp only [dd, List.mem_cons, List.mem_nil_iff, or_false] at hc
  rcases hc with rfl | rfl
  · exact dgt_bet (by omega)
  · exact dgt_bet (by omega)
theorem dddd_bet (n : Nat) : ∀ c ∈ dd (n / 100) ++ dd (n % 100), betB c = false := fun c hc => by
  rcases List.mem_append.1 hc with h | h
  · exact dd_bet _ c h
  · exact dd_bet _ c h
theorem hms_bet (h m x : Nat) : ∀ c ∈ hms h m x, betB c = false := fun c hc => by
  unfold hms at hc
  rcases List.mem_append.1 hc with hc | hc
  · exact dd_bet _ c hc
  · rcases List.mem_cons.1 hc with rfl | hc
    · decide
    · rcases List.mem_append.1 hc with hc | hc
      · exact dd_bet _ c hc
      · rcases List.mem_cons.1 hc with rfl | hc
        · decide
        · exact dd_bet _ c hc
theorem scan_word {l : List UInt8} (h : ∀ c ∈ l, betB c = false) (d : Dt) (cur r : List UInt8) : scanP d cur (l ++ r) = scanP d (cur ++ l) r := by
  induction l generalizing cur with
  | nil => simp
  | cons c l ih =>
    rw [List.cons_append, scanP_in _ _ (h c (by simp)), ih (fun e he => h e (List.mem_cons_of_mem _ he))]
    simp
theorem scan_cut {l : List UInt8} (h : ∀ c ∈ l, betB c = false) (d : Dt) {b : UInt8} (hb : betB b = true) (r : List UInt8) : scanP d [] (l ++ b :: r) = scanP (word0 d l) [] r := by
  rw [scan_word h, List.nil_append, scanP_bet _ _ hb]
theorem scan_end {l : List UInt8} (h : ∀ c ∈ l, betB c = false) (d : Dt) : scanP d [] l = word0 d l := by
  have := scan_word h d [] []
  simp at this
  rw [this, scanP_nil]

/-- A word without digits ahead, that is no month, says nothing. -/
theorem word_idle {l : List UInt8} (h : digsP l = []) (hm : monthP l = 0) (d : Dt) : word0 d l = d := by
  have n1 : numP l 1 2 = none := numP_no (by rw [h]; simp)
  have n2 : numP l 2 4 = none := numP_no (by rw [h]; simp)
  have c : clockP l = none := by unfold clockP; rw [n1]; rfl
  rw [word0_no c, word1_no n1, word2_no hm, word3_no n2]
theorem word_month {l : List UInt8} (h : digsP l = []) (hm : monthP l ≠ 0) (d : Dt) (hd : d.month = 0) : word0 d l = { d with month := monthP l } := by
  have n1 : numP l 1 2 = none := numP_no (by rw [h]; simp)
  have c : clockP l = none := by unfold clockP; rw [n1]; rfl
  rw [word0_no c, word1_no n1, word2_yes hd hm]
theorem word_day {n : Nat} (h : n < 100) (d : Dt) (hd : d.day = none) : word0 d (dd n) = { d with day := some n } := by
  rw [word0_no (clock_dd n), word1_yes hd (numP_dd h)]
theorem month_digits {l : List UInt8} (hl : ∀ c ∈ l, digB c = true) : monthP l = 0 := by
  unfold monthP
  split
  · rename_i h3
    unfold monthOf
    cases hi : monthNames.idxOf? (lower (l.take 3)) with
    | none => rfl
    | some i =>
      obtain ⟨hlt, he, _⟩ := List.idxOf?_eq_some_iff.1 hi
      exfalso
      match l, h3 with
      | c :: r, _ =>
        have hc := (digB_iff _).1 (hl c (by simp))
        have h1 : (lower ((c :: r).take 3)).head? = some (lowB c) := rfl
        rw [← he, lowB_not (by omega)] at h1
        have hall : ∀ i (h : i < monthNames.length), ∀ c ∈ (monthNames[i]).head?, ¬ (48 ≤ c.toNat ∧ c.toNat ≤ 57) := by decide +kernel
        exact hall i hlt c h1 hc
  · rfl
theorem word_year {n : Nat} (h : n < 10000) (d : Dt) (hd : d.year = none) : word0 d (dd (n / 100) ++ dd (n % 100)) = { d with year := some n } := by
  rw [word0_no (clock_dddd n), word1_no (numP_dddd h).2, word2_no (month_digits (dddd_all n)), word3_yes hd (numP_dddd h).1]
theorem word_hms {h m x : Nat} (hh : h < 100) (hm : m < 100) (hx : x < 100) (d : Dt) (hd : d.clock = none) : word0 d (hms h m x) = { d with clock := some (h, m, x) } := word0_yes hd (clock_hms hh hm hx)

def weekName (w : Nat) : List UInt8 := ([[83, 117, 110], [77, 111, 110], [84, 117, 101], [87, 101, 100], [84, 104, 117], [70, 114, 105], [83, 97, 116]] : List (List UInt8)).getD w []
def monName (m : Nat) : List UInt8 := ([[74, 97, 110], [70, 101, 98], [77, 97, 114], [65, 112, 114], [77, 97, 121], [74, 117, 110], [74, 117, 108], [65, 117, 103], [83, 101, 112], [79, 99, 116], [78, 111, 118], [68, 101, 99]] : List (List UInt8)).getD m []
/-- The text of a day and an hour: w the day of the week, m the month (from 0 on). -/
def textOf (w k m y h i x : Nat) : List UInt8 :=
  weekName w ++ 44 :: ([] ++ 32 :: (dd k ++ 32 :: (monName m ++ 32 :: ((dd (y / 100) ++ dd (y % 100)) ++ 32 :: (hms h i x ++ 32 :: [71, 77, 84])))))
theorem week_facts (w : Nat) (h : w < 7) : digsP (weekName w) = [] ∧ monthP (weekName w) = 0 ∧ ∀ c ∈ weekName w, betB c = false := by
  have : ∀ w < 7, digsP (weekName w) = [] ∧ monthP (weekName w) = 0 ∧ ∀ c ∈ weekName w, betB c = false := by decide +kernel
  exact this w h
theorem mon_facts (m : Nat) (h : m < 12) : digsP (monName m) = [] ∧ monthP (monName m) = m + 1 ∧ ∀ c ∈ monName m, betB c = false := by
  have : ∀ m < 12, digsP (monName m) = [] ∧ monthP (monName m) = m + 1 ∧ ∀ c ∈ monName m, betB c = false := by decide +kernel
  exact this m h
theorem gmt_facts : digsP [71, 77, 84] = [] ∧ monthP [71, 77, 84] = 0 ∧ ∀ c ∈ ([71, 77, 84] : List UInt8), betB c = false := by decide +kernel
theorem date_text {w k m y h i x : Nat} (hw : w < 7) (hk : k < 100) (hm : m < 12) (hy : y < 10000) (hh : h < 100) (hi : i < 100) (hx : x < 100) :
    dateP (textOf w k m y h i x) = ⟨some (h, i, x), some k, m + 1, some y⟩ := by
  obtain ⟨a1, a2, a3⟩ := week_facts w hw
  obtain ⟨b1, b2, b3⟩ := mon_facts m hm
  obtain ⟨c1, c2, c3⟩ := gmt_facts
  have bb : betB 32 = true := by decide
  unfold dateP textOf
  rw [scan_cut a3 _ (by decide), word_idle a1 a2, scan_cut (l := []) (by simp) _ bb, word0_nil, scan_cut (dd_bet k) _ bb, word_day hk _ rfl, scan_cut b3 _ bb, word_month b1 (by omega) _ rfl,
    scan_cut (dddd_bet y) _ bb, word_year hy _ rfl, scan_cut (hms_bet h i x) _ bb, word_hms hh hi hx _ rfl, scan_end c3, word_idle c1 c2, b2]
end Go.Proofs.Foot
