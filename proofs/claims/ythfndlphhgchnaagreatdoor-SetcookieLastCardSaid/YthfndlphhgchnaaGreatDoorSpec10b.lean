/- Plain law of chapter 10: a cookie's text, and what it tells again, over lists of bytes. No program stands here. -/
import Derived.Test.YthfndlphhgchnaaGreatDoorSpec10
namespace Go.Proofs.Foot

/-- The parts of a cookie's text behind the first one; D: the text of its date. -/
def partsC (t : CkT) (D A : List UInt8) : List (List UInt8) :=
  (if t.hasExp = true then [[69, 120, 112, 105, 114, 101, 115] ++ 61 :: D] else [])
  ++ ((if t.hasAge = true then [[77, 97, 120, 45, 65, 103, 101] ++ 61 :: A] else [])
  ++ ((if t.domain ≠ [] then [[68, 111, 109, 97, 105, 110] ++ 61 :: t.domain] else [])
  ++ ((if t.path ≠ [] then [[80, 97, 116, 104] ++ 61 :: t.path] else [])
  ++ ((if t.secure = true then [[83, 101, 99, 117, 114, 101]] else [])
  ++ ((if t.hidden = true then [[72, 116, 116, 112, 79, 110, 108, 121]] else [])
  ++ (if t.site = 1 then [[83, 97, 109, 101, 83, 105, 116, 101] ++ 61 :: [83, 116, 114, 105, 99, 116]] else if t.site = 2 then [[83, 97, 109, 101, 83, 105, 116, 101] ++ 61 :: [76, 97, 120]] else if t.site = 3 then [[83, 97, 109, 101, 83, 105, 116, 101] ++ 61 :: [78, 111, 110, 101]] else []))))))
def headC (t : CkT) : List UInt8 := t.name ++ 61 :: t.value
/-- A cookie's text. -/
def textC (t : CkT) (D A : List UInt8) : List UInt8 := headC t ++ (partsC t D A).flatMap fun p => 59 :: 32 :: p

theorem cut_parts {h : List UInt8} (hh : (59 : UInt8) ∉ h) : ∀ ps : List (List UInt8), (∀ p ∈ ps, (59 : UInt8) ∉ p) → cutAt 59 (h ++ ps.flatMap fun p => 59 :: 32 :: p) = h :: ps.map (32 :: ·) := by
  intro ps
  induction ps generalizing h with
  | nil => intro _; rw [List.flatMap_nil, List.append_nil, cutAt_free hh]; rfl
  | cons p ps ih =>
    intro hp
    have h1 : (59 : UInt8) ∉ 32 :: p := by
      rw [List.mem_cons, not_or]; exact ⟨by decide, hp p (by simp)⟩
    rw [List.flatMap_cons, List.cons_append, cutAt_at hh, ih h1 (fun q hq => hp q (List.mem_cons_of_mem _ hq))]
    rfl
/-- Blanks around a part. -/
def SameP (p q : List UInt8) : Prop := nameP p = nameP q ∧ valP p = valP q ∧ hasE p = hasE q
theorem SameP.refl (p : List UInt8) : SameP p p := ⟨rfl, rfl, rfl⟩
theorem SameP.trans {p q r : List UInt8} (h : SameP p q) (h' : SameP q r) : SameP p r := ⟨h.1.trans h'.1, h.2.1.trans h'.2.1, h.2.2.trans h'.2.2⟩
theorem blank_ne {b : List UInt8} (hb : ∀ c ∈ b, blankB c = true) : (61 : UInt8) ∉ b := fun h => by have := hb _ h; exact absurd this (by decide)
theorem same_ahead {b : List UInt8} (hb : ∀ c ∈ b, blankB c = true) (p : List UInt8) : SameP (b ++ p) p := by
  have hn := blank_ne hb
  rcases equals_ways p with h | ⟨h, r, rfl, hh⟩
  · have h2 : (61 : UInt8) ∉ b ++ p := by rw [List.mem_append, not_or]; exact ⟨hn, h⟩
    obtain ⟨a1, a2, a3⟩ := befE_free h
    obtain ⟨b1, b2, b3⟩ := befE_free h2
    refine ⟨?_, ?_, by rw [a3, b3]⟩
    · unfold nameP; rw [a1, b1, trim_ahead hb]
    · unfold valP; rw [a2, b2]
  · have h2 : (61 : UInt8) ∉ b ++ h := by rw [List.mem_append, not_or]; exact ⟨hn, hh⟩
    obtain ⟨a1, a2, a3⟩ := befE_at hh r
    obtain ⟨b1, b2, b3⟩ := befE_at h2 r
    rw [List.append_assoc] at b1 b2 b3
    refine ⟨?_, ?_, by rw [a3, b3]⟩
    · unfold nameP; rw [a1, b1, trim_ahead hb]
    · unfold valP; rw [a2, b2]
theorem same_behind {b : List UInt8} (hb : ∀ c ∈ b, blankB c = true) (p : List UInt8) : SameP (p ++ b) p := by
  have hn := blank_ne hb
  rcases equals_ways p with h | ⟨h, r, rfl, hh⟩
  · have h2 : (61 : UInt8) ∉ p ++ b := by rw [List.mem_append, not_or]; exact ⟨h, hn⟩
    obtain ⟨a1, a2, a3⟩ := befE_free h
    obtain ⟨b1, b2, b3⟩ := befE_free h2
    refine ⟨?_, ?_, by rw [a3, b3]⟩
    · unfold nameP; rw [a1, b1, trim_behind hb]
    · unfold valP; rw [a2, b2]
  · obtain ⟨a1, a2, a3⟩ := befE_at hh r
    obtain ⟨b1, b2, b3⟩ := befE_at hh (r ++ b)
    have e : h ++ 61 :: r ++ b = h ++ 61 :: (r ++ b) := by simp
    rw [← e] at b1 b2 b3
    refine ⟨?_, ?_, by rw [a3, b3]⟩
    · unfold nameP; rw [a1, b1]
    · unfold valP; rw [a2, b2, trim_behind hb]
/-- Two lists of parts that say the same. -/
def SameL : List (List UInt8) → List (List UInt8) → Prop
  | [], [] => True
  | p :: ps, q :: qs => SameP p q ∧ SameL ps qs
  | _, _ => False
theorem SameL.more : ∀ {ps qs : List (List UInt8)} (_ : SameL ps qs) (t : CkT), moreC t ps = moreC t qs
  | [], [], _, _ => rfl
  | p :: ps, q :: qs, h, t => by
    rw [moreC_cons, moreC_cons, h.1.1, h.1.2.1]
    exact h.2.more _
theorem SameL.start {p q : List UInt8} {ps qs : List (List UInt8)} (h : SameP p q) (hs : SameL ps qs) : startC p ps = startC q qs := by
  have h1 : name0 p = name0 q := by unfold name0; rw [h.1, h.2.2]
  have h2 : value0 p = value0 q := by unfold value0; rw [h.1, h.2.1, h.2.2]
  unfold startC
  rw [h1, h2, hs.more]
theorem SameL.append : ∀ {ps qs rs ss : List (List UInt8)} (_ : SameL ps qs) (_ : SameL rs ss), SameL (ps ++ rs) (qs ++ ss)
  | [], [], _, _, _, h => h
  | _ :: _, _ :: _, _, _, h, h' => ⟨h.1, h.2.append h'⟩
theorem SameL.refl : ∀ ps : List (List UInt8), SameL ps ps
  | [] => trivial
  | p :: ps => ⟨SameP.refl p, SameL.refl ps⟩
/-- Parts that say nothing at the end. -/
theorem start_append {p : List UInt8} {ps qs : List (List UInt8)} {t t' : CkT} (h : startC p ps = (t, 0)) (hq : moreC t qs = t') : startC p (ps ++ qs) = (t', 0) := by
  unfold startC at h ⊢
  split at h
  · simp at h
  · rename_i h1
    rw [if_neg h1]
    split at h
    · simp at h
    · rename_i h2
      rw [if_neg h2]
      injection h with h
      rw [moreC_append, h, hq]
/-- A text behind a text that tells a cookie. -/
theorem parse_append {l m : List UInt8} {t t' : CkT} (h : parseC l = (t, 0)) (hl : (l ++ 59 :: m).length ≤ 65536) (hb : m.any badB = false) (hm : moreC t (cutAt 59 m) = t') : parseC (l ++ 59 :: m) = (t', 0) := by
  have h1 : ¬ 65536 < l.length := by intro h1; rw [parseC_long h1] at h; injection h with _ h; cases h
  have h2 : l.any badB = false := by
    cases h2 : l.any badB with
    | false => rfl
    | true => rw [parseC_bad h1 h2] at h; injection h with _ h; cases h
  obtain ⟨p, ps, hc⟩ : ∃ p ps, cutAt 59 l = p :: ps := by
    cases hc : cutAt 59 l with
    | nil => exact absurd hc (cutAt_ne _ _)
    | cons p ps => exact ⟨p, ps, rfl⟩
  rw [parseC_go h1 h2 hc] at h
  rw [parseC_go (p := p) (ps := ps ++ cutAt 59 m) (by omega) (by rw [List.any_append, h2, List.any_cons, hb]; decide) (by rw [cutAt_append, hc]; rfl)]
  exact start_append h hm
/-- A text with more blanks behind its semicolons, and at its end. -/
def widen (l : List UInt8) : List UInt8 := l.flatMap fun c => if c = 59 then [59, 32, 9] else [c]
theorem widen_cut (l : List UInt8) : ∃ p ps, cutAt 59 l = p :: ps ∧ cutAt 59 (widen l) = p :: ps.map ([32, 9] ++ ·) := by
  induction l with
  | nil => exact ⟨[], [], rfl, rfl⟩
  | cons c l ih =>
    obtain ⟨p, ps, h1, h2⟩ := ih
    by_cases hc : c = 59
    · subst hc
      refine ⟨[], p :: ps, ?_, ?_⟩
      · rw [cutAt, h1]; rfl
      · have e : widen (59 :: l) = [] ++ 59 :: ([32, 9] ++ widen l) := rfl
        rw [e, cutAt_at (by simp)]
        rw [show ([32, 9] : List UInt8) ++ widen l = 32 :: 9 :: widen l from rfl, cutAt, cutAt, h2]
        rfl
    · have hc' : (c == 59) = false := by rw [beq_eq_false_iff_ne]; exact hc
      refine ⟨c :: p, ps, ?_, ?_⟩
      · rw [cutAt, hc', h1]; rfl
      · have e : widen (c :: l) = c :: widen l := by unfold widen; rw [List.flatMap_cons, if_neg hc]; rfl
        rw [e, cutAt, hc', h2]; rfl
theorem widen_bad (l : List UInt8) : (widen l).any badB = l.any badB := by
  induction l with
  | nil => rfl
  | cons c l ih =>
    by_cases hc : c = 59
    · subst hc
      have e : widen (59 :: l) = [59, 32, 9] ++ widen l := rfl
      rw [e, List.any_append, ih, List.any_cons]; rfl
    · have e : widen (c :: l) = [c] ++ widen l := by unfold widen; rw [List.flatMap_cons, if_neg hc]
      rw [e, List.any_append, ih, List.any_cons]
      simp
theorem widen_ge (l : List UInt8) : l.length ≤ (widen l).length := by
  induction l with
  | nil => exact Nat.le_refl _
  | cons c l ih =>
    by_cases hc : c = 59
    · subst hc
      have e : widen (59 :: l) = [59, 32, 9] ++ widen l := rfl
      rw [e, List.length_append, List.length_cons]
      simp; omega
    · have e : widen (c :: l) = [c] ++ widen l := by unfold widen; rw [List.flatMap_cons, if_neg hc]
      rw [e, List.length_append, List.length_cons]
      simp; omega
theorem widen_same : ∀ ps : List (List UInt8), SameL (ps.map ([32, 9] ++ ·)) ps
  | [] => trivial
  | p :: ps => ⟨same_ahead (by decide) p, widen_same ps⟩
theorem cut_behind {b : List UInt8} (hb : (59 : UInt8) ∉ b) : ∀ l : List UInt8, ∃ ps p, cutAt 59 l = ps ++ [p] ∧ cutAt 59 (l ++ b) = ps ++ [p ++ b]
  | [] => ⟨[], [], rfl, by rw [List.nil_append, cutAt_free hb]; rfl⟩
  | c :: l => by
    obtain ⟨ps, p, h1, h2⟩ := cut_behind hb l
    by_cases hc : c = 59
    · subst hc
      refine ⟨[] :: ps, p, ?_, ?_⟩
      · rw [cutAt, h1]; rfl
      · rw [List.cons_append, cutAt, h2]; rfl
    · have hc' : (c == 59) = false := by rw [beq_eq_false_iff_ne]; exact hc
      rw [List.cons_append, cutAt, cutAt, hc', h1, h2]
      cases ps with
      | nil => exact ⟨[], c :: p, rfl, rfl⟩
      | cons q qs => exact ⟨(c :: q) :: qs, p, rfl, rfl⟩
theorem same_last {ps : List (List UInt8)} {p : List UInt8} {b : List UInt8} (hb : ∀ c ∈ b, blankB c = true) : SameL (ps ++ [p ++ b]) (ps ++ [p]) := (SameL.refl ps).append ⟨same_behind hb p, trivial⟩
theorem SameL.cons_start {ps qs : List (List UInt8)} {p q : List UInt8} {r s : List (List UInt8)} (h : SameL ps qs) (hp : ps = p :: r) (hq : qs = q :: s) : startC p r = startC q s := by
  subst hp hq
  exact SameL.start h.1 h.2
theorem parse_wide {l : List UInt8} {t : CkT} (h : parseC l = (t, 0)) (hl : (widen l ++ [32, 59, 59]).length ≤ 65536) : parseC (widen l ++ [32, 59, 59]) = (t, 0) := by
  have hge := widen_ge l
  have h1 : ¬ 65536 < l.length := by intro h1; rw [parseC_long h1] at h; injection h with _ h; cases h
  have h2 : l.any badB = false := by
    cases h2 : l.any badB with
    | false => rfl
    | true => rw [parseC_bad h1 h2] at h; injection h with _ h; cases h
  obtain ⟨p, ps, hc, hw⟩ := widen_cut l
  rw [parseC_go h1 h2 hc] at h
  have hone : parseC (widen l ++ [32]) = (t, 0) := by
    obtain ⟨qs, q, c1, c2⟩ := cut_behind (b := [32]) (by decide) (widen l)
    have hs : SameL (cutAt 59 (widen l ++ [32])) (cutAt 59 (widen l)) := by rw [c1, c2]; exact same_last (by decide)
    obtain ⟨q0, q1, hq⟩ : ∃ q0 q1, cutAt 59 (widen l ++ [32]) = q0 :: q1 := by
      cases hc : cutAt 59 (widen l ++ [32]) with
      | nil => exact absurd hc (cutAt_ne _ _)
      | cons p ps => exact ⟨p, ps, rfl⟩
    rw [parseC_go (p := q0) (ps := q1) (by simp at hl ⊢; omega) (by rw [List.any_append, widen_bad, h2]; decide) hq, hs.cons_start hq hw, SameL.start (SameP.refl p) (widen_same ps), h]
  have e : widen l ++ [32, 59, 59] = (widen l ++ [32]) ++ 59 :: [59] := by simp
  rw [e] at hl ⊢
  exact parse_append hone hl (by decide) rfl
end Go.Proofs.Foot
