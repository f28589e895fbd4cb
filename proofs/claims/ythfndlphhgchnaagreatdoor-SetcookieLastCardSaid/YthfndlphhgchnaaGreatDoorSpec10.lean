/- Plain law of chapter 10: what a cookie's text tells, and its text, over lists of bytes. No program stands here. -/
import Derived.Test.YthfndlphhgchnaaGreatDoorSpec01c
import Derived.Test.YthfndlphhgchnaaGreatDoorSpec01e
import Derived.Test.YthfndlphhgchnaaGreatDoorSpec07
import Derived.Test.YthfndlphhgchnaaGreatDoorSpec07b
namespace Go.Proofs.Foot

/-- What a cookie tells. -/
structure CkT where
  name : List UInt8 := []
  value : List UInt8 := []
  domain : List UInt8 := []
  path : List UInt8 := []
  exp : Int := 0
  hasExp : Bool := false
  age : Int := 0
  hasAge : Bool := false
  secure : Bool := false
  hidden : Bool := false
  site : Nat := 0
deriving DecidableEq
/-- The seconds that a date tells, or none. -/
def dateD (d : Dt) : Option Int :=
  if fullP d = true ∧ okS (fixY (d.year.getD 0) : Nat) d.month (d.day.getD 0 : Nat) (d.clock.getD (0, 0, 0)).1 (d.clock.getD (0, 0, 0)).2.1 (d.clock.getD (0, 0, 0)).2.2 = true
  then some (secS (fixY (d.year.getD 0) : Nat) d.month (d.day.getD 0 : Nat) (d.clock.getD (0, 0, 0)).1 (d.clock.getD (0, 0, 0)).2.1 (d.clock.getD (0, 0, 0)).2.2) else none
def dateO (l : List UInt8) : Option Int := dateD (dateP l)
/-- Without a sign of that kind ahead. -/
def offH (a : UInt8) (l : List UInt8) : List UInt8 := if l.head? = some a then l.drop 1 else l
theorem offH_yes (a : UInt8) (l : List UInt8) : offH a (a :: l) = l := if_pos rfl
theorem offH_no {a : UInt8} {l : List UInt8} (h : l.head? ≠ some a) : offH a l = l := if_neg h
theorem offH_len (a : UInt8) (l : List UInt8) : (offH a l).length ≤ l.length := by
  unfold offH; split
  · simp
  · exact Nat.le_refl _
theorem trimPrefix_one (a : UInt8) (l : List UInt8) : Lib.trimPrefix l [a] = offH a l := by
  cases l with
  | nil => rfl
  | cons c r =>
    by_cases h : c = a
    · subst h
      rw [offH_yes]
      simp [Lib.trimPrefix, Lib.hasPrefix, List.isPrefixOf]
    · rw [offH_no (by simpa using h)]
      have : ([a] : List UInt8).isPrefixOf (c :: r) = false := by simp [List.isPrefixOf]; exact fun e => h e.symm
      simp [Lib.trimPrefix, Lib.hasPrefix, this]
def maxN : Nat := 2147483647
/-- The seconds that an age tells, or none. -/
def ageO (l : List UInt8) : Option Int :=
  if offH 45 l ≠ [] ∧ (∀ c ∈ offH 45 l, digB c = true) then some (if l.head? = some 45 then -((min maxN (digV 0 (offH 45 l)) : Nat) : Int) else ((min maxN (digV 0 (offH 45 l)) : Nat) : Int)) else none
def pathO (l : List UInt8) : List UInt8 := if l.head? = some 47 then l else []
def siteO (l : List UInt8) : Nat :=
  if lower l = [115, 116, 114, 105, 99, 116] then 1 else if lower l = [108, 97, 120] then 2 else if lower l = [110, 111, 110, 101] then 3 else 0
def expL : List UInt8 := [101, 120, 112, 105, 114, 101, 115]
def ageL : List UInt8 := [109, 97, 120, 45, 97, 103, 101]
def domL : List UInt8 := [100, 111, 109, 97, 105, 110]
def pathL : List UInt8 := [112, 97, 116, 104]
def secL : List UInt8 := [115, 101, 99, 117, 114, 101]
def hidL : List UInt8 := [104, 116, 116, 112, 111, 110, 108, 121]
def siteL : List UInt8 := [115, 97, 109, 101, 115, 105, 116, 101]
/-- What an attribute of that name (in small letters) does. -/
def attrC (t : CkT) (n v : List UInt8) : CkT :=
  if n = expL then (match dateO v with | some x => { t with exp := x, hasExp := true } | none => t)
  else if n = ageL then (match ageO v with | some x => { t with age := x, hasAge := true } | none => t)
  else if n = domL then { t with domain := lower (offH 46 v) }
  else if n = pathL then { t with path := pathO v }
  else if n = secL then { t with secure := true }
  else if n = hidL then { t with hidden := true }
  else if n = siteL then { t with site := siteO v }
  else t
def applyC (t : CkT) (n v : List UInt8) : CkT := if v.length ≤ 1024 then attrC t (lower n) v else t
/-- Ahead of the first equals sign, behind it, is there one? -/
def befE (l : List UInt8) : List UInt8 := l.takeWhile (· != 61)
def aftE (l : List UInt8) : List UInt8 := (l.dropWhile (· != 61)).drop 1
def hasE (l : List UInt8) : Bool := l.contains 61
def nameP (l : List UInt8) : List UInt8 := trim (befE l)
def valP (l : List UInt8) : List UInt8 := trim (aftE l)
theorem befE_at {h : List UInt8} (hh : (61 : UInt8) ∉ h) (r : List UInt8) : befE (h ++ 61 :: r) = h ∧ aftE (h ++ 61 :: r) = r ∧ hasE (h ++ 61 :: r) = true := by
  have h1 : ∀ c ∈ h, (c != 61) = true := fun c hc => by simp; rintro rfl; exact hh hc
  refine ⟨?_, ?_, by unfold hasE; simp⟩
  · unfold befE
    rw [List.takeWhile_append_of_pos h1]
    simp
  · unfold aftE
    rw [dropWhile_all h1]
    simp
theorem befE_free {h : List UInt8} (hh : (61 : UInt8) ∉ h) : befE h = h ∧ aftE h = [] ∧ hasE h = false := by
  have h1 : ∀ c ∈ h, (c != 61) = true := fun c hc => by simp; rintro rfl; exact hh hc
  refine ⟨?_, ?_, by unfold hasE; simpa using hh⟩
  · unfold befE
    have := List.takeWhile_append_of_pos (l₂ := []) h1
    simpa using this
  · unfold aftE
    rw [dropWhile_none h1]; rfl
theorem equals_ways (l : List UInt8) : ((61 : UInt8) ∉ l) ∨ ∃ h r, l = h ++ 61 :: r ∧ (61 : UInt8) ∉ h := by
  rcases index_at 61 l with ⟨_, h⟩ | ⟨h, r, e, hh, _⟩
  · exact .inl h
  · exact .inr ⟨h, r, e, hh⟩
/-- strings.Cut at one sign. -/
theorem cut_at {a : UInt8} {h : List UInt8} (hh : a ∉ h) (r : List UInt8) : Lib.cut (h ++ a :: r) [a] = (h, r, true) := by
  have hi : Lib.index (h ++ a :: r) [a] = h.length := by
    rcases index_at a (h ++ a :: r) with ⟨_, hn⟩ | ⟨h', r', e, hh', hi⟩
    · simp at hn
    · have h1 := cutAt_at hh r
      rw [e, cutAt_at hh' r'] at h1
      injection h1 with h1
      rw [hi, h1]
  unfold Lib.cut
  rw [hi, if_pos (by omega)]
  simp
theorem cut_free {a : UInt8} {h : List UInt8} (hh : a ∉ h) : Lib.cut h [a] = (h, [], false) := by
  have hi : Lib.index h [a] = -1 := by
    rcases index_at a h with ⟨hi, _⟩ | ⟨h', r', e, _, _⟩
    · exact hi
    · rw [e] at hh; simp at hh
  unfold Lib.cut
  rw [hi, if_neg (by omega)]
theorem cut_equals (l : List UInt8) : Lib.cut l [61] = (befE l, aftE l, hasE l) := by
  rcases equals_ways l with h | ⟨h, r, rfl, hh⟩
  · obtain ⟨a, b, c⟩ := befE_free h
    rw [cut_free h, a, b, c]
  · obtain ⟨a, b, c⟩ := befE_at hh r
    rw [cut_at hh, a, b, c]
/-- strings.Cut at semicolons, and the parts. -/
theorem cut_semis (l : List UInt8) : ∃ p r : List UInt8, ∃ m : Bool, Lib.cut l [59] = (p, r, m) ∧ cutAt 59 l = p :: (if m = true then cutAt 59 r else []) ∧ (m = true → l = p ++ 59 :: r) ∧ (m = false → l = p ∧ r = []) := by
  rcases index_at 59 l with ⟨_, h⟩ | ⟨h, r, rfl, hh, _⟩
  · exact ⟨l, [], false, cut_free h, by rw [cutAt_free h]; rfl, (fun e => by cases e), fun _ => ⟨rfl, rfl⟩⟩
  · exact ⟨h, r, true, cut_at hh r, by rw [cutAt_at hh]; rfl, fun _ => rfl, (fun e => by cases e)⟩
/-- What is told by the first part. -/
def name0 (l : List UInt8) : List UInt8 := if hasE l = true then nameP l else []
def value0 (l : List UInt8) : List UInt8 := if hasE l = true then valP l else nameP l
/-- A control byte. -/
def badB (c : UInt8) : Bool := (decide (c.toNat < 32) && decide (c.toNat ≠ 9)) || decide (c.toNat = 127)
def moreC (t : CkT) (ps : List (List UInt8)) : CkT := ps.foldl (fun t q => applyC t (nameP q) (valP q)) t
theorem moreC_cons (t : CkT) (p : List UInt8) (ps : List (List UInt8)) : moreC t (p :: ps) = moreC (applyC t (nameP p) (valP p)) ps := List.foldl_cons ..
theorem moreC_nil (t : CkT) : moreC t [] = t := rfl
theorem moreC_append (t : CkT) (ps qs : List (List UInt8)) : moreC t (ps ++ qs) = moreC (moreC t ps) qs := List.foldl_append ..
def startC (p : List UInt8) (ps : List (List UInt8)) : CkT × Nat :=
  if 4096 < (name0 p).length + (value0 p).length then ({}, 3)
  else if name0 p = [] ∧ value0 p = [] then ({}, 4)
  else (moreC { name := name0 p, value := value0 p } ps, 0)
/-- What a text tells: the cookie, and the error. -/
def parseC (l : List UInt8) : CkT × Nat :=
  if 65536 < l.length then ({}, 3)
  else if l.any badB = true then ({}, 4)
  else startC ((cutAt 59 l).headD []) ((cutAt 59 l).drop 1)
theorem parseC_long {l : List UInt8} (h : 65536 < l.length) : parseC l = ({}, 3) := if_pos h
theorem parseC_bad {l : List UInt8} (h : ¬ 65536 < l.length) (hb : l.any badB = true) : parseC l = ({}, 4) := by unfold parseC; rw [if_neg h, if_pos hb]
theorem parseC_go {l : List UInt8} (h : ¬ 65536 < l.length) (hb : l.any badB = false) {p : List UInt8} {ps : List (List UInt8)} (hc : cutAt 59 l = p :: ps) : parseC l = startC p ps := by
  unfold parseC; rw [if_neg h, if_neg (by rw [hb]; decide), hc]; rfl
/-- A part behind the first one says nothing if its name is no attribute's. -/
theorem attrC_none {t : CkT} {n v : List UInt8} (h : n ∉ [expL, ageL, domL, pathL, secL, hidL, siteL]) : attrC t n v = t := by
  simp only [List.mem_cons, List.mem_nil_iff, or_false, not_or] at h
  obtain ⟨h1, h2, h3, h4, h5, h6, h7⟩ := h
  unfold attrC
  rw [if_neg h1, if_neg h2, if_neg h3, if_neg h4, if_neg h5, if_neg h6, if_neg h7]
/-- The number of an age, digit by digit. -/
theorem min_digV (l : List UInt8) : ∀ a v : Nat, a = min maxN v → (l.foldl (fun n c => min maxN (10 * n + (c.toNat - 48))) a) = min maxN (digV v l) := by
  induction l with
  | nil => intro a v h; rw [digV_nil]; exact h
  | cons c l ih =>
    intro a v h
    rw [List.foldl_cons, digV_cons]
    refine ih _ _ ?_
    subst h
    unfold maxN
    omega
end Go.Proofs.Foot
