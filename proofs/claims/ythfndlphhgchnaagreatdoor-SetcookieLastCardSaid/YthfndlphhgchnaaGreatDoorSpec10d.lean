/- Plain law of chapter 10: the outright laws SetcookieLast and SetcookieFirst, over lists of bytes. No program stands here. -/
import Derived.Test.YthfndlphhgchnaaGreatDoorSpec10c
namespace Go.Proofs.Foot

def idleM : List UInt8 := [32, 120, 59, 32, 121, 61, 122, 59, 59, 32, 61, 59, 32, 77, 97, 120, 45, 65, 103, 101, 61, 97, 59, 32, 69, 120, 112, 105, 114, 101, 115, 61, 98]
theorem idle_cut : cutAt 59 idleM = [[32, 120], [32, 121, 61, 122], [], [32, 61], [32, 77, 97, 120, 45, 65, 103, 101, 61, 97], [32, 69, 120, 112, 105, 114, 101, 115, 61, 98]] := by decide +kernel
theorem apply_none {t : CkT} {n v : List UInt8} (h : lower n ∉ [expL, ageL, domL, pathL, secL, hidL, siteL]) : applyC t n v = t := by
  unfold applyC
  split
  · exact attrC_none h
  · rfl
theorem apply_age_no {t : CkT} {n v : List UInt8} (h : lower n = ageL) (hv : ageO v = none) : applyC t n v = t := by
  unfold applyC
  split
  · unfold attrC
    rw [h, if_neg (by decide), if_pos rfl, hv]
  · rfl
theorem apply_exp_no {t : CkT} {n v : List UInt8} (h : lower n = expL) (hv : dateO v = none) : applyC t n v = t := by
  unfold applyC
  split
  · unfold attrC
    rw [h, if_pos rfl, hv]
  · rfl
/-- Parts that say nothing. -/
theorem idle_more (t : CkT) : moreC t (cutAt 59 idleM) = t := by
  rw [idle_cut, moreC_cons, moreC_cons, moreC_cons, moreC_cons, moreC_cons, moreC_cons, moreC_nil]
  rw [apply_none (t := t) (n := nameP [32, 120]) (by decide +kernel), apply_none (t := t) (n := nameP [32, 121, 61, 122]) (by decide +kernel), apply_none (t := t) (n := nameP []) (by decide +kernel), apply_none (t := t) (n := nameP [32, 61]) (by decide +kernel),
    apply_age_no (t := t) (n := nameP [32, 77, 97, 120, 45, 65, 103, 101, 61, 97]) (by decide +kernel) (by decide +kernel), apply_exp_no (t := t) (n := nameP [32, 69, 120, 112, 105, 114, 101, 115, 61, 98]) (by decide +kernel) (by decide +kernel)]
theorem idle_bad : idleM.any badB = false := by decide +kernel

/-- The sites' names, as the law tells them. -/
def siteN (k : Nat) : List UInt8 := ([[63], [83, 84, 82, 73, 67, 84], [108, 97, 120], [78, 111, 110, 101]] : List (List UInt8)).getD k []
def restM (k : Nat) : List UInt8 := [32, 112, 65, 84, 72, 61, 47, 112, 59, 32, 68, 111, 109, 97, 105, 110, 61, 46, 68, 59, 32, 115, 101, 99, 117, 114, 101, 61, 120, 59, 32, 72, 84, 84, 80, 111, 110, 108, 121, 59, 32, 83, 97, 109, 101, 83, 105, 116, 101, 61] ++ siteN k
def ageM (ds : List UInt8) : List UInt8 := [32, 77, 65, 88, 45, 97, 103, 101, 32, 61, 32] ++ (ds ++ [32])
def lastM (ds : List UInt8) (k : Nat) : List UInt8 := ageM ds ++ 59 :: restM k
theorem rest_cut (k : Nat) (h : k < 4) : cutAt 59 (restM k) = [[32, 112, 65, 84, 72, 61, 47, 112], [32, 68, 111, 109, 97, 105, 110, 61, 46, 68], [32, 115, 101, 99, 117, 114, 101, 61, 120], [32, 72, 84, 84, 80, 111, 110, 108, 121]] ++ [[32, 83, 97, 109, 101, 83, 105, 116, 101, 61] ++ siteN k] := by
  have : ∀ k < 4, cutAt 59 (restM k) = [[32, 112, 65, 84, 72, 61, 47, 112], [32, 68, 111, 109, 97, 105, 110, 61, 46, 68], [32, 115, 101, 99, 117, 114, 101, 61, 120], [32, 72, 84, 84, 80, 111, 110, 108, 121]] ++ [[32, 83, 97, 109, 101, 83, 105, 116, 101, 61] ++ siteN k] := by decide +kernel
  exact this k h
theorem rest_bad (k : Nat) (h : k < 4) : (restM k).any badB = false := by
  have : ∀ k < 4, (restM k).any badB = false := by decide +kernel
  exact this k h

theorem rest_apply (k : Nat) (h : k < 4) (t : CkT) : moreC t ([[32, 112, 65, 84, 72, 61, 47, 112], [32, 68, 111, 109, 97, 105, 110, 61, 46, 68], [32, 115, 101, 99, 117, 114, 101, 61, 120], [32, 72, 84, 84, 80, 111, 110, 108, 121]] ++ [[32, 83, 97, 109, 101, 83, 105, 116, 101, 61] ++ siteN k]) = { t with path := [47, 112], domain := [100], secure := true, hidden := true, site := k } := by
  have e0 : ∀ t : CkT, applyC t (nameP [32, 112, 65, 84, 72, 61, 47, 112]) (valP [32, 112, 65, 84, 72, 61, 47, 112]) = { t with path := [47, 112] } := fun t => rfl
  have e1 : ∀ t : CkT, applyC t (nameP [32, 68, 111, 109, 97, 105, 110, 61, 46, 68]) (valP [32, 68, 111, 109, 97, 105, 110, 61, 46, 68]) = { t with domain := [100] } := fun t => rfl
  have e2 : ∀ t : CkT, applyC t (nameP [32, 115, 101, 99, 117, 114, 101, 61, 120]) (valP [32, 115, 101, 99, 117, 114, 101, 61, 120]) = { t with secure := true } := fun t => rfl
  have e3 : ∀ t : CkT, applyC t (nameP [32, 72, 84, 84, 80, 111, 110, 108, 121]) (valP [32, 72, 84, 84, 80, 111, 110, 108, 121]) = { t with hidden := true } := fun t => rfl
  have e4 : ∀ t : CkT, applyC t (nameP ([32, 83, 97, 109, 101, 83, 105, 116, 101, 61] ++ siteN k)) (valP ([32, 83, 97, 109, 101, 83, 105, 116, 101, 61] ++ siteN k)) = { t with site := k } := by
    have hk : k = 0 ∨ k = 1 ∨ k = 2 ∨ k = 3 := by omega
    rcases hk with rfl | rfl | rfl | rfl
    all_goals (intro t; rfl)
  show applyC (applyC (applyC (applyC (applyC t (nameP [32, 112, 65, 84, 72, 61, 47, 112]) (valP [32, 112, 65, 84, 72, 61, 47, 112])) (nameP [32, 68, 111, 109, 97, 105, 110, 61, 46, 68]) (valP [32, 68, 111, 109, 97, 105, 110, 61, 46, 68])) (nameP [32, 115, 101, 99, 117, 114, 101, 61, 120]) (valP [32, 115, 101, 99, 117, 114, 101, 61, 120])) (nameP [32, 72, 84, 84, 80, 111, 110, 108, 121]) (valP [32, 72, 84, 84, 80, 111, 110, 108, 121])) (nameP ([32, 83, 97, 109, 101, 83, 105, 116, 101, 61] ++ siteN k)) (valP ([32, 83, 97, 109, 101, 83, 105, 116, 101, 61] ++ siteN k)) = _
  rw [e0, e1, e2, e3, e4]

/-- Attributes that are told again. -/
theorem last_more {ds : List UInt8} (hd : ∀ c ∈ ds, digB c = true) (hne : ds ≠ []) (hl : ds.length ≤ 1000) (hm : digV 0 ds ≤ 65535) {k : Nat} (hk : k < 4) (t : CkT) :
    moreC t (cutAt 59 (lastM ds k)) = { t with age := (digV 0 ds : Nat), hasAge := true, path := [47, 112], domain := [100], secure := true, hidden := true, site := k } := by
  have h59 : (59 : UInt8) ∉ ageM ds := by
    unfold ageM
    simp only [List.mem_append, not_or]
    exact ⟨by decide, fun e => (dig_ok (hd _ e)).1.1 rfl, by decide⟩
  unfold lastM
  rw [cutAt_at h59, moreC_cons, rest_cut k hk]
  have e : ageM ds = 32 :: ([77, 65, 88, 45, 97, 103, 101, 32] ++ 61 :: (32 :: (ds ++ [32]))) := rfl
  have hT : trim (32 :: (ds ++ [32])) = ds := by
    rw [show (32 : UInt8) :: (ds ++ [32]) = [32] ++ (ds ++ [32]) from rfl, trim_ahead (by decide), trim_behind (by decide)]
    exact trim_nb fun c hc => (dig_ok (hd c hc)).2
  have hh : ds.head? ≠ some 45 := fun e => by
    have := hd 45 (List.mem_of_mem_head? (by rw [e]; exact Option.mem_some_self _))
    exact absurd this (by decide)
  have hA : ageO ds = some ((digV 0 ds : Nat) : Int) := by
    unfold ageO
    rw [offH_no hh, if_pos ⟨hne, hd⟩, if_neg hh, Nat.min_eq_right (by unfold maxN; omega)]
  rw [e, part_eq (by decide), hT, apply_go (by omega)]
  have e2 : attrC t (lower (trim [77, 65, 88, 45, 97, 103, 101, 32])) ds = { t with age := (digV 0 ds : Nat), hasAge := true } := by
    show attrC t ageL ds = _
    unfold attrC
    rw [if_neg (by decide), if_pos rfl, hA]
  rw [e2, rest_apply k hk]
theorem last_bad {ds : List UInt8} (hd : ∀ c ∈ ds, digB c = true) {k : Nat} (hk : k < 4) : (lastM ds k).any badB = false := by
  unfold lastM ageM
  have h1 : ds.any badB = false := by
    rw [List.any_eq_false]
    intro c hc
    rw [(dig_ok (hd c hc)).1.2]; decide
  simp only [List.any_append, List.any_cons, List.any_nil, h1, rest_bad k hk]
  decide

/-- A text without semicolons. -/
theorem first_eq {n v : List UInt8} (hc : ∀ c ∈ n ++ v, okC c) (hn : (61 : UInt8) ∉ n) : parseC (n ++ 61 :: v) =
    if 65535 < (n ++ v).length then ({}, 3) else if 4096 < (trim n).length + (trim v).length then ({}, 3) else if trim n = [] ∧ trim v = [] then ({}, 4) else ({ name := trim n, value := trim v }, 0) := by
  have hl : (n ++ 61 :: v).length = (n ++ v).length + 1 := by simp; omega
  by_cases h : 65535 < (n ++ v).length
  · rw [if_pos h, parseC_long (by omega)]
  · rw [if_neg h]
    have h59 : (59 : UInt8) ∉ n ++ 61 :: v := by
      rw [List.mem_append, List.mem_cons]
      rintro (e | e | e)
      · exact (hc _ (List.mem_append_left _ e)).1 rfl
      · exact absurd e (by decide)
      · exact (hc _ (List.mem_append_right _ e)).1 rfl
    have hb : (n ++ 61 :: v).any badB = false := by
      rw [List.any_eq_false]
      intro c hcc
      rw [List.mem_append, List.mem_cons] at hcc
      rcases hcc with e | rfl | e
      · rw [(hc _ (List.mem_append_left _ e)).2]; decide
      · decide
      · rw [(hc _ (List.mem_append_right _ e)).2]; decide
    rw [parseC_go (by omega) hb (cutAt_free h59)]
    obtain ⟨a1, a2, a3⟩ := befE_at hn v
    have e1 : name0 (n ++ 61 :: v) = trim n := by unfold name0; rw [a3, if_pos rfl]; unfold nameP; rw [a1]
    have e2 : value0 (n ++ 61 :: v) = trim v := by unfold value0; rw [a3, if_pos rfl]; unfold valP; rw [a2]
    unfold startC
    rw [e1, e2, moreC_nil]
theorem first_bare {n : List UInt8} (hc : ∀ c ∈ n, okC c) (hn : (61 : UInt8) ∉ n) (hl : n.length ≤ 65535) : parseC n =
    if 4096 < (trim n).length then ({}, 3) else if trim n = [] then ({}, 4) else ({ value := trim n }, 0) := by
  have h59 : (59 : UInt8) ∉ n := fun e => (hc _ e).1 rfl
  have hb : n.any badB = false := by
    rw [List.any_eq_false]
    intro c hcc
    rw [(hc _ hcc).2]; decide
  rw [parseC_go (by omega) hb (cutAt_free h59)]
  obtain ⟨a1, a2, a3⟩ := befE_free hn
  have e1 : name0 n = [] := by unfold name0; rw [a3, if_neg (by decide)]
  have e2 : value0 n = trim n := by unfold value0; rw [a3, if_neg (by decide)]; unfold nameP; rw [a1]
  unfold startC
  rw [e1, e2, moreC_nil]
  simp
end Go.Proofs.Foot
