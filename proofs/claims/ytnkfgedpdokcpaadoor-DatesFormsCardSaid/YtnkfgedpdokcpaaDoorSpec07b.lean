/- The plain reading of a cookie's date (chapter 07), over lists of bytes. No program stands here. -/
import Derived.Test.YtnkfgedpdokcpaaDoorSpec01c
import Derived.Test.YtnkfgedpdokcpaaDoorSpec07
import Derived.Lib.Strings
import Derived.Lib.Index
namespace Go.Proofs.Foot

/-- The digits that a text begins with, and what is behind. -/
def digsP (l : List UInt8) : List UInt8 := l.takeWhile digB
def restP (l : List UInt8) : List UInt8 := l.dropWhile digB
theorem digs_rest (l : List UInt8) : digsP l ++ restP l = l := List.takeWhile_append_dropWhile
theorem digsP_all (l : List UInt8) : ∀ c ∈ digsP l, digB c = true := fun c hc => by
  have := List.all_takeWhile (p := digB) (l := l)
  exact List.all_eq_true.1 this c hc
/-- A number of so many digits. -/
def numP (l : List UInt8) (least most : Nat) : Option Nat := if least ≤ (digsP l).length ∧ (digsP l).length ≤ most then some (digV 0 (digsP l)) else none
theorem numP_yes {l : List UInt8} {a b : Nat} (h : a ≤ (digsP l).length ∧ (digsP l).length ≤ b) : numP l a b = some (digV 0 (digsP l)) := if_pos h
theorem numP_no {l : List UInt8} {a b : Nat} (h : ¬ (a ≤ (digsP l).length ∧ (digsP l).length ≤ b)) : numP l a b = none := if_neg h
theorem numP_some {l : List UInt8} {a b n : Nat} (h : numP l a b = some n) : (a ≤ (digsP l).length ∧ (digsP l).length ≤ b) ∧ n = digV 0 (digsP l) := by
  unfold numP at h; split at h
  · rename_i hc; exact ⟨hc, by injection h with h; exact h.symm⟩
  · cases h
theorem numP_none {l : List UInt8} {a b : Nat} (h : numP l a b = none) : ¬ (a ≤ (digsP l).length ∧ (digsP l).length ≤ b) := by
  unfold numP at h; split at h
  · cases h
  · assumption

/-- What stands behind a colon at a text's beginning. -/
def colonP : List UInt8 → Option (List UInt8)
  | 58 :: r => some r
  | _ => none
def clockP (l : List UInt8) : Option (Nat × Nat × Nat) :=
  (numP l 1 2).bind fun h => (colonP (restP l)).bind fun l1 => (numP l1 1 2).bind fun m => (colonP (restP l1)).bind fun l2 => (numP l2 1 2).map fun x => (h, m, x)

def monthNames : List (List UInt8) := [[106, 97, 110], [102, 101, 98], [109, 97, 114], [97, 112, 114], [109, 97, 121], [106, 117, 110], [106, 117, 108], [97, 117, 103], [115, 101, 112], [111, 99, 116], [110, 111, 118], [100, 101, 99]]
def monthsLow : List UInt8 := monthNames.flatten
/-- The month of three small letters; 0: none. -/
def monthOf (t : List UInt8) : Nat := match monthNames.idxOf? t with | some i => i + 1 | none => 0
/-- The month that a text begins with; 0: none. -/
def monthP (l : List UInt8) : Nat := if 3 ≤ l.length then monthOf (lower (l.take 3)) else 0

/-- What the words told so far. -/
structure Dt where
  clock : Option (Nat × Nat × Nat)
  day : Option Nat
  month : Nat
  year : Option Nat
def dt0 : Dt := ⟨none, none, 0, none⟩

/-- The rules of a word, the last ones first. -/
def word3 (d : Dt) (l : List UInt8) : Dt := match d.year, numP l 2 4 with | none, some n => { d with year := some n } | _, _ => d
def word2 (d : Dt) (l : List UInt8) : Dt := if d.month = 0 ∧ monthP l ≠ 0 then { d with month := monthP l } else word3 d l
def word1 (d : Dt) (l : List UInt8) : Dt := match d.day, numP l 1 2 with | none, some n => { d with day := some n } | _, _ => word2 d l
def word0 (d : Dt) (l : List UInt8) : Dt := match d.clock, clockP l with | none, some c => { d with clock := some c } | _, _ => word1 d l
theorem word3_told {d : Dt} {y : Nat} (h : d.year = some y) (l : List UInt8) : word3 d l = d := by unfold word3; rw [h]
theorem word3_no {d : Dt} {l : List UInt8} (h : numP l 2 4 = none) : word3 d l = d := by unfold word3; rw [h]; cases d.year <;> rfl
theorem word3_yes {d : Dt} {l : List UInt8} {n : Nat} (h : d.year = none) (hn : numP l 2 4 = some n) : word3 d l = { d with year := some n } := by unfold word3; rw [h, hn]
theorem word2_told {d : Dt} (h : d.month ≠ 0) (l : List UInt8) : word2 d l = word3 d l := if_neg (fun e => h e.1)
theorem word2_no {d : Dt} {l : List UInt8} (h : monthP l = 0) : word2 d l = word3 d l := if_neg (fun e => e.2 h)
theorem word2_yes {d : Dt} {l : List UInt8} (h : d.month = 0) (hn : monthP l ≠ 0) : word2 d l = { d with month := monthP l } := if_pos ⟨h, hn⟩
theorem word1_told {d : Dt} {y : Nat} (h : d.day = some y) (l : List UInt8) : word1 d l = word2 d l := by unfold word1; rw [h]
theorem word1_no {d : Dt} {l : List UInt8} (h : numP l 1 2 = none) : word1 d l = word2 d l := by unfold word1; rw [h]; cases d.day <;> rfl
theorem word1_yes {d : Dt} {l : List UInt8} {n : Nat} (h : d.day = none) (hn : numP l 1 2 = some n) : word1 d l = { d with day := some n } := by unfold word1; rw [h, hn]
theorem word0_told {d : Dt} {y : Nat × Nat × Nat} (h : d.clock = some y) (l : List UInt8) : word0 d l = word1 d l := by unfold word0; rw [h]
theorem word0_no {d : Dt} {l : List UInt8} (h : clockP l = none) : word0 d l = word1 d l := by unfold word0; rw [h]; cases d.clock <;> rfl
theorem word0_yes {d : Dt} {l : List UInt8} {n : Nat × Nat × Nat} (h : d.clock = none) (hn : clockP l = some n) : word0 d l = { d with clock := some n } := by unfold word0; rw [h, hn]
theorem word0_nil (d : Dt) : word0 d [] = d := by
  rw [word0_no rfl, word1_no rfl, word2_no rfl, word3_no rfl]

def betB (c : UInt8) : Bool := decide (c.toNat = 9 ∨ (32 ≤ c.toNat ∧ c.toNat ≤ 47) ∨ (59 ≤ c.toNat ∧ c.toNat ≤ 64) ∨ (91 ≤ c.toNat ∧ c.toNat ≤ 96) ∨ (123 ≤ c.toNat ∧ c.toNat ≤ 126))
/-- The words of a text, one by one: cur is the word that has begun. -/
def scanP (d : Dt) (cur : List UInt8) : List UInt8 → Dt
  | [] => word0 d cur
  | c :: r => if betB c = true then scanP (word0 d cur) [] r else scanP d (cur ++ [c]) r
theorem scanP_nil (d : Dt) (cur : List UInt8) : scanP d cur [] = word0 d cur := rfl
theorem scanP_bet (d : Dt) (cur : List UInt8) {c : UInt8} (h : betB c = true) (r : List UInt8) : scanP d cur (c :: r) = scanP (word0 d cur) [] r := if_pos h
theorem scanP_in (d : Dt) (cur : List UInt8) {c : UInt8} (h : betB c = false) (r : List UInt8) : scanP d cur (c :: r) = scanP d (cur ++ [c]) r := if_neg (by rw [h]; decide)

def fixY (n : Nat) : Nat := if n < 70 then n + 2000 else if n < 100 then n + 1900 else n
/-- What a cookie's date tells, if all is told. -/
def fullP (d : Dt) : Bool := d.clock.isSome && d.day.isSome && decide (d.month ≠ 0) && d.year.isSome && decide (1601 ≤ fixY (d.year.getD 0))
def dateP (l : List UInt8) : Dt := scanP dt0 [] l

/-- All values are small. -/
structure Small (d : Dt) : Prop where
  c : ∀ c, d.clock = some c → c.1 ≤ 99 ∧ c.2.1 ≤ 99 ∧ c.2.2 ≤ 99
  k : ∀ n, d.day = some n → n ≤ 99
  m : d.month ≤ 12
  y : ∀ n, d.year = some n → n ≤ 9999
theorem numP_bd2 {l : List UInt8} {a n : Nat} (h : numP l a 2 = some n) : n ≤ 99 := by
  obtain ⟨⟨_, h2⟩, rfl⟩ := numP_some h
  have := digV_lt (digsP l) (digsP_all l) 0 1 (by decide)
  have h3 : (10 : Nat) ^ (digsP l).length ≤ 10 ^ 2 := Nat.pow_le_pow_right (by decide) h2
  have e : (10 : Nat) ^ 2 = 100 := rfl
  omega
theorem numP_bd4 {l : List UInt8} {a n : Nat} (h : numP l a 4 = some n) : n ≤ 9999 := by
  obtain ⟨⟨_, h2⟩, rfl⟩ := numP_some h
  have := digV_lt (digsP l) (digsP_all l) 0 1 (by decide)
  have h3 : (10 : Nat) ^ (digsP l).length ≤ 10 ^ 4 := Nat.pow_le_pow_right (by decide) h2
  have e : (10 : Nat) ^ 4 = 10000 := rfl
  omega
theorem clockP_bd {l : List UInt8} {c : Nat × Nat × Nat} (h : clockP l = some c) : c.1 ≤ 99 ∧ c.2.1 ≤ 99 ∧ c.2.2 ≤ 99 := by
  unfold clockP at h
  simp only [Option.bind_eq_some_iff, Option.map_eq_some_iff] at h
  obtain ⟨a, ha, l1, _, b, hb, l2, _, x, hx, rfl⟩ := h
  exact ⟨numP_bd2 ha, numP_bd2 hb, numP_bd2 hx⟩
theorem monthP_le (l : List UInt8) : monthP l ≤ 12 := by
  unfold monthP monthOf
  split
  · split
    · rename_i i hi
      have := List.idxOf?_eq_some_iff.1 hi
      obtain ⟨hlt, _⟩ := this
      have e : monthNames.length = 12 := rfl
      omega
    · omega
  · omega
theorem small0 : Small dt0 := ⟨(fun _ h => by cases h), (fun _ h => by cases h), by decide, (fun _ h => by cases h)⟩
theorem Small.word {d : Dt} (h : Small d) (l : List UInt8) : Small (word0 d l) := by
  have h3 : Small (word3 d l) := by
    unfold word3; split
    · rename_i n _ hn; exact ⟨h.c, h.k, h.m, (fun m hm => by injection hm with hm; subst hm; exact numP_bd4 hn)⟩
    · exact h
  have h2 : Small (word2 d l) := by
    unfold word2; split
    · exact ⟨h.c, h.k, monthP_le l, h.y⟩
    · exact h3
  have h1 : Small (word1 d l) := by
    unfold word1; split
    · rename_i n _ hn; exact ⟨h.c, (fun m hm => by injection hm with hm; subst hm; exact numP_bd2 hn), h.m, h.y⟩
    · exact h2
  unfold word0; split
  · rename_i n _ hn; exact ⟨(fun m hm => by injection hm with hm; subst hm; exact clockP_bd hn), h.k, h.m, h.y⟩
  · exact h1
theorem Small.scan (l : List UInt8) : ∀ {d : Dt} (_ : Small d) (cur : List UInt8), Small (scanP d cur l) := by
  induction l with
  | nil => intro d h cur; exact h.word cur
  | cons c l ih =>
    intro d h cur
    rw [scanP]; split
    · exact ih (h.word cur) []
    · exact ih h _

theorem restP_trim (l : List UInt8) : Lib.trimLeftS l digitsL = restP l := by
  unfold Lib.trimLeftS restP
  congr 1; funext c; exact digitsL_eq c
theorem restP_length (l : List UInt8) : l.length = (digsP l).length + (restP l).length := by
  have := congrArg List.length (digs_rest l)
  rw [List.length_append] at this; exact this.symm
theorem digsP_take (l : List UInt8) : l.take (digsP l).length = digsP l := by
  have h : (digsP l ++ restP l).take (digsP l).length = digsP l := List.take_left
  rw [digs_rest] at h; exact h
theorem digsP_take' {l : List UInt8} {n : Nat} (h : l.length - (restP l).length = n) : l.take n = digsP l := by
  have := restP_length l
  rw [← h, show l.length - (restP l).length = (digsP l).length from by omega]; exact digsP_take l
theorem colon_some {l r : List UInt8} (h : colonP l = some r) : Lib.hasPrefix l [58] = true ∧ Lib.trimPrefix l [58] = r := by
  unfold colonP at h
  split at h
  · injection h with h; subst h
    rename_i r
    have hp : Lib.hasPrefix (58 :: r) [58] = true := by simp [Lib.hasPrefix]
    exact ⟨hp, by simp [Lib.trimPrefix, hp]⟩
  · cases h
theorem colon_none {l : List UInt8} (h : colonP l = none) : Lib.hasPrefix l [58] = false ∧ Lib.trimPrefix l [58] = l := by
  have hp : Lib.hasPrefix l [58] = false := by
    unfold colonP at h
    split at h
    · cases h
    · rename_i hne
      cases l with
      | nil => rfl
      | cons c r =>
        have hc : ((58 : UInt8) == c) = false := by
          rw [beq_eq_false_iff_ne]; rintro rfl; exact hne r rfl
        show ((58 : UInt8) == c && [].isPrefixOf r) = false
        rw [hc]; rfl
  exact ⟨hp, by simp [Lib.trimPrefix, hp]⟩
/-- What the reading of a clock comes to, flag by flag. -/
theorem clock_cases (l : List UInt8) :
    (∃ h m x, numP l 1 2 = some h ∧ Lib.hasPrefix (restP l) [58] = true ∧ numP (Lib.trimPrefix (restP l) [58]) 1 2 = some m ∧ Lib.hasPrefix (restP (Lib.trimPrefix (restP l) [58])) [58] = true ∧ numP (Lib.trimPrefix (restP (Lib.trimPrefix (restP l) [58])) [58]) 1 2 = some x ∧ clockP l = some (h, m, x)) ∨
    (clockP l = none ∧ ((numP l 1 2).isSome && Lib.hasPrefix (restP l) [58] && (numP (Lib.trimPrefix (restP l) [58]) 1 2).isSome && Lib.hasPrefix (restP (Lib.trimPrefix (restP l) [58])) [58] && (numP (Lib.trimPrefix (restP (Lib.trimPrefix (restP l) [58])) [58]) 1 2).isSome) = false) := by
  unfold clockP
  cases h1 : numP l 1 2 with
  | none => right; simp
  | some h =>
    cases h2 : colonP (restP l) with
    | none => right; obtain ⟨a, _⟩ := colon_none h2; simp [a]
    | some l1 =>
      obtain ⟨a1, b1⟩ := colon_some h2
      rw [b1]
      cases h3 : numP l1 1 2 with
      | none => right; simp [h3]
      | some m =>
        cases h4 : colonP (restP l1) with
        | none => right; obtain ⟨a, _⟩ := colon_none h4; simp [a, h3, h4]
        | some l2 =>
          obtain ⟨a2, b2⟩ := colon_some h4
          rw [b2]
          cases h5 : numP l2 1 2 with
          | none => right; simp [h3, h4, h5]
          | some x => left; exact ⟨h, m, x, rfl, a1, rfl, a2, rfl, by simp [h3, h4, h5]⟩
theorem index_occ : ∀ (s sub : List UInt8), 0 ≤ Lib.index s sub → Lib.occAt s sub (Lib.index s sub).toNat = true
  | [], sub, h => by
    rw [Lib.index] at h ⊢
    cases hs : sub.isEmpty with
    | true => rw [hs] at h; simp at hs; subst hs; rfl
    | false => rw [hs] at h; simp at h
  | b :: l, sub, h => by
    rw [Lib.index] at h ⊢
    cases hp : sub.isPrefixOf (b :: l) with
    | true => rw [if_pos rfl]; exact hp
    | false =>
      rw [hp, if_neg (by decide)] at h
      rw [if_neg (by decide)]
      by_cases hm : Lib.index l sub = -1
      · rw [hm] at h; simp at h
      · have hge := Lib.index_ge l sub
        rw [if_neg (by simpa using hm)] at h ⊢
        have ih := index_occ l sub (by omega)
        have e : (Lib.index l sub + 1).toNat = (Lib.index l sub).toNat + 1 := by omega
        rw [e]; exact ih
/-- strings.Index of the twelve months' names. -/
theorem months_index {t : List UInt8} (ht : t.length = 3) : (monthOf t = 0 ∧ (Lib.index monthsLow t < 0 ∨ Lib.index monthsLow t % 3 ≠ 0)) ∨ (monthOf t ≠ 0 ∧ Lib.index monthsLow t = 3 * ((monthOf t : Int) - 1)) := by
  unfold monthOf
  cases h : monthNames.idxOf? t with
  | some i =>
    right
    obtain ⟨hi, he, _⟩ := List.idxOf?_eq_some_iff.1 h
    refine ⟨by simp, ?_⟩
    have hlt : i < 12 := hi
    have h12 : ∀ i < 12, Lib.index monthsLow (monthNames.getD i []) = 3 * (i : Int) := by decide +kernel
    have := h12 i hlt
    rw [List.getD, List.getElem?_eq_getElem hi, Option.getD_some, he] at this
    rw [this]; simp
  | none =>
    left
    refine ⟨rfl, ?_⟩
    by_cases h0 : Lib.index monthsLow t < 0
    · exact .inl h0
    · right
      intro h3
      have hx : ∀ i < 12, (monthsLow.drop (3 * i)).take 3 = monthNames.getD i [] := by decide +kernel
      have ho := index_occ monthsLow t (by omega)
      obtain ⟨k, hk⟩ : ∃ k : Nat, (Lib.index monthsLow t).toNat = 3 * k := ⟨(Lib.index monthsLow t).toNat / 3, by omega⟩
      rw [hk] at ho
      have hl : monthsLow.length = 36 := by decide +kernel
      have hr : 3 * k + t.length ≤ monthsLow.length := by
        rcases Lib.occAt_room ho with h | h
        · exact h
        · rw [h] at ht; cases ht
      rw [Lib.occAt_iff_take _ _ _ hr, ht, beq_iff_eq, hx k (by omega)] at ho
      have hlt : k < monthNames.length := by show k < 12; omega
      rw [List.getD, List.getElem?_eq_getElem hlt, Option.getD_some] at ho
      exact List.idxOf?_eq_none_iff.1 h (by rw [← ho]; exact List.getElem_mem hlt)

/-- Where the reading of a date stands: behind k bytes, the word that has begun begins at fr; or behind the end. -/
def ScanAt (l : List UInt8) (k fr : Nat) (d : Dt) : Prop :=
  (k ≤ l.length ∧ fr ≤ k ∧ scanP d ((l.drop fr).take (k - fr)) (l.drop k) = dateP l) ∨ (k = l.length + 1 ∧ d = dateP l)
theorem scanAt_start (l : List UInt8) : ScanAt l 0 0 dt0 := .inl ⟨Nat.zero_le _, Nat.le_refl _, by simp; rfl⟩
theorem scanAt_in {l : List UInt8} {k fr : Nat} {d : Dt} (h : ScanAt l k fr d) (hk : k < l.length) (hb : betB l[k] = false) : fr ≤ k ∧ ScanAt l (k + 1) fr d := by
  rcases h with ⟨_, hf, hs⟩ | ⟨h, _⟩
  · refine ⟨hf, .inl ⟨hk, by omega, ?_⟩⟩
    rw [List.drop_eq_getElem_cons hk, scanP_in _ _ hb] at hs
    rw [← hs]
    congr 1
    have hlt : k - fr < (l.drop fr).length := by rw [List.length_drop]; omega
    rw [show k + 1 - fr = (k - fr) + 1 from by omega, List.take_add_one, List.getElem?_eq_getElem hlt, List.getElem_drop]
    simp [show fr + (k - fr) = k from by omega]
  · omega
theorem scanAt_bet {l : List UInt8} {k fr : Nat} {d : Dt} (h : ScanAt l k fr d) (hk : k < l.length) (hb : betB l[k] = true) : fr ≤ k ∧ ScanAt l (k + 1) (k + 1) (word0 d ((l.drop fr).take (k - fr))) := by
  rcases h with ⟨_, hf, hs⟩ | ⟨h, _⟩
  · refine ⟨hf, .inl ⟨hk, Nat.le_refl _, ?_⟩⟩
    rw [List.drop_eq_getElem_cons hk, scanP_bet _ _ hb] at hs
    rw [← hs]; simp
  · omega
theorem scanAt_last {l : List UInt8} {k fr : Nat} {d : Dt} (h : ScanAt l k fr d) (hk : k = l.length) : fr ≤ k ∧ ScanAt l (k + 1) (k + 1) (word0 d ((l.drop fr).take (k - fr))) := by
  rcases h with ⟨_, hf, hs⟩ | ⟨h, _⟩
  · refine ⟨hf, .inr ⟨by omega, ?_⟩⟩
    have e : l.drop k = [] := List.drop_eq_nil_of_le (by omega)
    rw [← hs, e]; rfl
  · omega
theorem scanAt_end {l : List UInt8} {k fr : Nat} {d : Dt} (h : ScanAt l k fr d) (hk : l.length < k) : d = dateP l := by
  rcases h with ⟨h, _⟩ | ⟨_, h⟩
  · omega
  · exact h
theorem small_date (l : List UInt8) : Small (dateP l) := Small.scan l small0 []
theorem betB_iff (c : UInt8) : betB c = true ↔ (c.toNat = 9 ∨ (32 ≤ c.toNat ∧ c.toNat ≤ 47) ∨ (59 ≤ c.toNat ∧ c.toNat ≤ 64) ∨ (91 ≤ c.toNat ∧ c.toNat ≤ 96) ∨ (123 ≤ c.toNat ∧ c.toNat ≤ 126)) := decide_eq_true_iff
end Go.Proofs.Foot
