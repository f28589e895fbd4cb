/- The plain reference of chapter 11 answers as parseS: part by part. -/
import Derived.Test.YtnmdcbneoipllaaDoorSt30
namespace Go.Proofs.YtnmdcbneoipllaaDoor
open Go.Lib Go.Proofs.Foot

def noEq (c : UInt8) : Bool := decide (c ≠ 61 ∧ c ≠ 34)
def quotR (l : List UInt8) : Option (List UInt8) := match l with
  | [] => none
  | c :: r => if c = 34 then (quoS false [] r).bind fun p => if p.2 = [] then some p.1 else none else none
def dirR (x : List UInt8) : Option (List UInt8 × List UInt8 × Bool) := match x.dropWhile noEq with
  | [] => if token x = true then some (lower x, [], false) else none
  | c :: r => if c = 61 ∧ token (trim (x.takeWhile noEq)) = true then
      (if token (trim r) = true then some (lower (trim (x.takeWhile noEq)), trim r, true) else (quotR (trim r)).map fun v => (lower (trim (x.takeWhile noEq)), v, true))
    else none
def stepR (st : Option Wst) (a : List UInt8) : Option Wst := st.bind fun st => if trim a = [] then some st else (dirR (trim a)).bind fun d => if st.told.contains d.1 then none else setS st d.1 d.2.1 d.2.2
def refS (l : List UInt8) : Option (Nat × Bool) := finS ((partsE false false [] l).foldl stepR (some ⟨[], 0, false⟩))
theorem fold_none : ∀ l : List (List UInt8), l.foldl stepR none = none
  | [] => rfl
  | _ :: l => fold_none l
/-- What a directive tells, and what stands behind it. -/
def dL (l : List UInt8) : Option ((List UInt8 × List UInt8 × Bool) × List UInt8) := (wordS l).bind fun p => (saysS p.2).bind fun q => (endS q.2.2).map fun r => ((lower p.1, q.1, q.2.1), r)
theorem dirS_dL (l : List UInt8) (st : Wst) : dirS l st = (dL l).bind fun z => if st.told.contains z.1.1 then none else (setS st z.1.1 z.1.2.1 z.1.2.2).map fun st' => (z.2, st') := by
  unfold dirS dL
  cases wordS l with
  | none => rfl
  | some p =>
    simp only [Option.bind_some]
    cases hs : saysS p.2 with
    | none => simp
    | some q =>
      simp only [Option.bind_some]
      cases he : endS q.2.2 with
      | none =>
        simp only [Option.map_none, Option.bind_none]
        split
        · rfl
        · cases setS st (lower p.1) q.1 q.2.1 <;> rfl
      | some r =>
        simp only [Option.map_some, Option.bind_some]
        split
        · rfl
        · cases setS st (lower p.1) q.1 q.2.1 <;> rfl

theorem wordS_bl {b : List UInt8} (hb : Bl b) (l : List UInt8) : wordS (b ++ l) = wordS l := by rw [← wordS_trimL, bl_trimL hb, wordS_trimL]
theorem atS_bl {b : List UInt8} (hb : Bl b) (c : UInt8) (l : List UInt8) : atS c (b ++ l) = atS c l := by rw [← atS_trimL, bl_trimL hb, atS_trimL]
theorem valS_bl {b : List UInt8} (hb : Bl b) (l : List UInt8) : valS (b ++ l) = valS l := by unfold valS; rw [atS_bl hb, wordS_bl hb]
theorem endS_bl {b : List UInt8} (hb : Bl b) (l : List UInt8) : endS (b ++ l) = endS l := by unfold endS; rw [bl_trimL hb]
/-- Nothing, or a semicolon and what stands behind it. -/
def Tail (m : List UInt8) : Prop := m = [] ∨ ∃ r, m = 59 :: r
theorem Tail.ends {m : List UInt8} (h : Tail m) : endS m = some (m.drop 1) := by
  rcases h with rfl | ⟨r, rfl⟩
  · rfl
  · rw [end_semi]; rfl
theorem Tail.no61 {m : List UInt8} (h : Tail m) : atS 61 m = none := by
  rcases h with rfl | ⟨r, rfl⟩
  · rfl
  · exact atS_miss (by decide) (by decide) r
theorem Tail.stop {m : List UInt8} (h : Tail m) : Stop m := by
  rcases h with rfl | ⟨r, rfl⟩
  · exact Stop.nil
  · exact Stop.cons (by decide)
theorem blank_stop {c : UInt8} (h : blankB c = true) : stopB c = true := by
  have := all_u8 (fun c => !blankB c || stopB c) (by decide +kernel) c
  simpa [h] using this
theorem blank_facts {c : UInt8} (h : blankB c = true) : c ≠ 34 ∧ c ≠ 59 ∧ c ≠ 61 := by
  have := all_u8 (fun c => !blankB c || (c != 34 && c != 59 && c != 61)) (by decide +kernel) c
  simp [h] at this
  exact ⟨this.1.1, this.1.2, this.2⟩
theorem Stop.bl {b m : List UInt8} (hb : Bl b) (hm : Stop m) : Stop (b ++ m) := by
  cases b with
  | nil => exact hm
  | cons c b => exact Stop.cons (blank_stop (hb c (by simp)))
theorem bl_append {a b : List UInt8} (ha : Bl a) (hb : Bl b) : Bl (a ++ b) := fun c hc => by
  rcases List.mem_append.1 hc with h | h
  · exact ha c h
  · exact hb c h
theorem says_bare {b m : List UInt8} (hb : Bl b) (hm : Tail m) : saysS (b ++ m) = some ([], false, b ++ m) := by
  unfold saysS; rw [atS_bl hb, hm.no61]
theorem says_eq {b : List UInt8} (hb : Bl b) (r : List UInt8) : saysS (b ++ 61 :: r) = (valS r).map fun p => (p.1, true, p.2) := by
  unfold saysS; rw [atS_bl hb, atS_hit 61 (by decide)]
theorem dropWhile_head {p : UInt8 → Bool} {l r : List UInt8} {c : UInt8} (h : l.dropWhile p = c :: r) : l = l.takeWhile p ++ c :: r := by
  rw [← h, List.takeWhile_append_dropWhile]
theorem quotR_some {l v : List UInt8} (h : quotR l = some v) : ∃ u, l = 34 :: u ∧ quoS false [] u = some (v, []) := by
  unfold quotR at h
  split at h
  · cases h
  · rename_i c r
    split at h
    · rename_i hc
      cases hq : quoS false [] r with
      | none => rw [hq] at h; cases h
      | some p =>
        rw [hq] at h
        simp only [Option.bind_some] at h
        split at h
        · rename_i hp
          injection h with h
          exact ⟨r, by rw [hc], by rw [hq, ← h, ← hp]⟩
        · cases h
    · cases h
/-- From the part to the text. -/
theorem dL_of {b1 x b2 m : List UInt8} (h1 : Bl b1) (h2 : Bl b2) (hm : Tail m) {d : List UInt8 × List UInt8 × Bool} (hd : dirR x = some d) : dL (b1 ++ (x ++ (b2 ++ m))) = some (d, m.drop 1) := by
  unfold dL
  rw [wordS_bl h1]
  unfold dirR at hd
  split at hd
  · rename_i hx
    split at hd
    · rename_i ht
      injection hd with hd
      rw [word_at ht (Stop.bl h2 hm.stop)]
      simp only [Option.bind_some]
      rw [says_bare h2 hm]
      simp only [Option.bind_some]
      rw [endS_bl h2, hm.ends, ← hd]; rfl
    · cases hd
  · rename_i c r hx
    split at hd
    · rename_i hc
      obtain ⟨hc, ht⟩ := hc
      obtain ⟨n0, hn⟩ : ∃ n0, n0 = x.takeWhile noEq := ⟨_, rfl⟩
      have ex : x = n0 ++ 61 :: r := by rw [hn, ← hc]; exact dropWhile_head hx
      rw [← hn] at hd ht
      obtain ⟨c1, c2, k1, k2, en⟩ := trim_split n0
      obtain ⟨t, ht0⟩ : ∃ t, t = trim n0 := ⟨_, rfl⟩
      rw [← ht0] at hd ht en
      obtain ⟨e1, e2, k3, k4, er⟩ := trim_split r
      obtain ⟨w, hw⟩ : ∃ w, w = trim r := ⟨_, rfl⟩
      rw [← hw] at hd er
      have el : x ++ (b2 ++ m) = c1 ++ (t ++ (c2 ++ 61 :: (e1 ++ (w ++ (e2 ++ (b2 ++ m)))))) := by rw [ex, en, er]; simp
      rw [el, wordS_bl k1, word_at ht (Stop.bl k2 (Stop.cons (by decide)))]
      simp only [Option.bind_some]
      rw [says_eq k2, valS_bl k3]
      split at hd
      · rename_i hwt
        injection hd with hd
        rw [val_tok hwt (Stop.bl k4 (Stop.bl h2 hm.stop))]
        simp only [Option.map_some, Option.bind_some]
        rw [endS_bl k4, endS_bl h2, hm.ends, ← hd]; rfl
      · cases hq : quotR w with
        | none => rw [hq] at hd; cases hd
        | some v =>
          rw [hq] at hd
          simp only [Option.map_some, Option.some.injEq] at hd
          obtain ⟨u, eu, hu⟩ := quotR_some hq
          rw [eu, List.cons_append, val_quo, quo_more _ _ _ _ _ hu]
          simp only [Option.map_some, Option.bind_some]
          rw [endS_bl k4, endS_bl h2, hm.ends, ← hd]; rfl
    · cases hd
theorem wordS_split {l t r : List UInt8} (h : wordS l = some (t, r)) : token t = true ∧ ∃ b, Bl b ∧ l = b ++ (t ++ r) := by
  unfold wordS at h
  split at h
  · rename_i ht
    injection h with h
    injection h with h1 h2
    obtain ⟨b, hb, e⟩ := trimL_split l
    refine ⟨by rw [← h1]; exact ht, b, hb, ?_⟩
    rw [← h1, ← h2]
    have : wordW (trimL l) ++ wordR (trimL l) = trimL l := List.takeWhile_append_dropWhile
    rw [this]; exact e
  · cases h
theorem atS_split {c : UInt8} {l r : List UInt8} (h : atS c l = some r) : ∃ b, Bl b ∧ l = b ++ c :: r := by
  obtain ⟨b, hb, e⟩ := trimL_split l
  unfold atS at h
  split at h
  · cases h
  · rename_i d t ht
    split at h
    · rename_i hd
      injection h with h
      exact ⟨b, hb, by rw [← h, ← hd, ← ht]; exact e⟩
    · cases h
theorem endS_split {l r : List UInt8} (h : endS l = some r) : ∃ b m, Bl b ∧ Tail m ∧ l = b ++ m ∧ r = m.drop 1 := by
  obtain ⟨b, hb, e⟩ := trimL_split l
  unfold endS at h
  split at h
  · rename_i ht
    injection h with h
    exact ⟨b, [], hb, .inl rfl, by rw [← ht]; exact e, h.symm⟩
  · rename_i d t ht
    split at h
    · rename_i hd
      injection h with h
      exact ⟨b, 59 :: t, hb, .inr ⟨t, rfl⟩, by rw [← hd, ← ht]; exact e, h.symm⟩
    · cases h
theorem plain_tok {t : List UInt8} (ht : token t = true) : ∀ c ∈ t, c ≠ 34 ∧ c ≠ 59 := fun c hc => ⟨(sign_facts (token_all ht c hc)).2.2.2.1, (sign_facts (token_all ht c hc)).2.2.1⟩
theorem plain_bl {b : List UInt8} (hb : Bl b) : ∀ c ∈ b, c ≠ 34 ∧ c ≠ 59 := fun c hc => ⟨(blank_facts (hb c hc)).1, (blank_facts (hb c hc)).2.1⟩
theorem noEq_tok {t : List UInt8} (ht : token t = true) : ∀ c ∈ t, noEq c = true := fun c hc => decide_eq_true ⟨(sign_facts (token_all ht c hc)).2.2.2.2, (sign_facts (token_all ht c hc)).2.2.2.1⟩
theorem noEq_bl {b : List UInt8} (hb : Bl b) : ∀ c ∈ b, noEq c = true := fun c hc => decide_eq_true ⟨(blank_facts (hb c hc)).2.2, (blank_facts (hb c hc)).1⟩
theorem all_app {p : UInt8 → Prop} {a b : List UInt8} (ha : ∀ c ∈ a, p c) (hb : ∀ c ∈ b, p c) : ∀ c ∈ a ++ b, p c := fun c hc => by
  rcases List.mem_append.1 hc with h | h
  · exact ha c h
  · exact hb c h
theorem take_noEq {a r : List UInt8} (h : ∀ c ∈ a, noEq c = true) : (a ++ 61 :: r).takeWhile noEq = a ∧ (a ++ 61 :: r).dropWhile noEq = 61 :: r := by
  induction a with
  | nil => exact ⟨by rw [List.nil_append, List.takeWhile_cons_of_neg (by decide)], by rw [List.nil_append, List.dropWhile_cons_of_neg (by decide)]⟩
  | cons c a ih =>
    obtain ⟨i1, i2⟩ := ih fun d hd => h d (List.mem_cons_of_mem _ hd)
    have hc := h c (by simp)
    exact ⟨by rw [List.cons_append, List.takeWhile_cons_of_pos hc, i1], by rw [List.cons_append, List.dropWhile_cons_of_pos hc, i2]⟩
theorem dirR_eq {t b2 r : List UInt8} (ht : token t = true) (hb : Bl b2) : dirR (t ++ (b2 ++ 61 :: r)) = if token (trim r) = true then some (lower t, trim r, true) else (quotR (trim r)).map fun v => (lower t, v, true) := by
  unfold dirR
  have e : t ++ (b2 ++ 61 :: r) = (t ++ b2) ++ 61 :: r := by simp
  obtain ⟨i1, i2⟩ := take_noEq (r := r) (all_app (noEq_tok ht) (noEq_bl hb))
  have htr : trim (t ++ b2) = t := by
    have := trim_around (b := []) (b' := b2) (fun _ h => by cases h) hb t
    rw [List.nil_append] at this
    rw [this]; exact trim_tok ht
  rw [e, i2, i1]
  simp only
  rw [htr, if_pos ⟨trivial, ht⟩]
/-- From the text to the part. -/
theorem dL_inv {l r : List UInt8} {d : List UInt8 × List UInt8 × Bool} (h : dL l = some (d, r)) : ∃ a m, l = a ++ m ∧ Tail m ∧ balE false false a = some false ∧ dirR (trim a) = some d := by
  unfold dL at h
  cases hw : wordS l with
  | none => rw [hw] at h; cases h
  | some p =>
    obtain ⟨t, r1⟩ := p
    rw [hw] at h
    simp only [Option.bind_some] at h
    obtain ⟨ht, b1, k1, el⟩ := wordS_split hw
    unfold saysS at h
    cases ha : atS 61 r1 with
    | none =>
      rw [ha] at h
      simp only [Option.bind_some] at h
      cases he : endS r1 with
      | none => rw [he] at h; cases h
      | some e =>
        rw [he] at h
        simp only [Option.map_some, Option.some.injEq, Prod.mk.injEq] at h
        obtain ⟨b2, m, k2, hm, e1, _⟩ := endS_split he
        refine ⟨b1 ++ t ++ b2, m, by rw [el, e1]; simp, hm, bal_plain (all_app (all_app (plain_bl k1) (plain_tok ht)) (plain_bl k2)), ?_⟩
        rw [trim_around k1 k2, trim_tok ht, ← h.1]
        unfold dirR
        rw [dropWhile_none (noEq_tok ht)]
        simp only
        rw [if_pos ht]
    | some r2 =>
      rw [ha] at h
      simp only at h
      obtain ⟨b2, k2, e2⟩ := atS_split ha
      cases hv : valS r2 with
      | none => rw [hv] at h; cases h
      | some z =>
        obtain ⟨v, r3⟩ := z
        rw [hv] at h
        simp only [Option.map_some, Option.bind_some] at h
        cases he : endS r3 with
        | none => rw [he] at h; cases h
        | some e =>
          rw [he] at h
          simp only [Option.map_some, Option.some.injEq, Prod.mk.injEq] at h
          obtain ⟨b4, m, k4, hm, e4, _⟩ := endS_split he
          unfold valS at hv
          split at hv
          · rename_i r4 h34
            obtain ⟨b3, k3, e3⟩ := atS_split h34
            obtain ⟨q, q1, q2, q3, p, q4⟩ := bal_quo _ _ _ _ _ hv
            refine ⟨b1 ++ (t ++ (b2 ++ 61 :: (b3 ++ 34 :: q))) ++ b4, m, by rw [el, e2, e3, q1, e4]; simp, hm, ?_, ?_⟩
            · have e : b1 ++ (t ++ (b2 ++ 61 :: (b3 ++ 34 :: q))) ++ b4 = (b1 ++ (t ++ (b2 ++ (61 :: b3)))) ++ (34 :: (q ++ b4)) := by simp
              have hpl : ∀ c ∈ b1 ++ (t ++ (b2 ++ (61 :: b3))), c ≠ 34 ∧ c ≠ 59 := all_app (plain_bl k1) (all_app (plain_tok ht) (all_app (plain_bl k2) (fun c hc => by
                rcases List.mem_cons.1 hc with rfl | hc
                · decide
                · exact plain_bl k3 c hc)))
              rw [e, bal_append _ _ _ (bal_plain hpl), balE, if_neg (by decide), if_pos rfl]
              show balE true false (q ++ b4) = _
              rw [bal_append _ _ _ q2]
              exact bal_plain (plain_bl k4)
            · have hq : trim (b3 ++ 34 :: q) = 34 :: q := by
                have := trim_around (b := b3) (b' := []) k3 (fun _ h => by cases h) (34 :: q)
                rw [List.append_nil] at this
                rw [this]
                exact trim_hard ⟨34, q, rfl, by decide⟩ ⟨34 :: p, 34, by rw [q4]; rfl, by decide⟩
              have hx : trim (t ++ (b2 ++ 61 :: (b3 ++ 34 :: q))) = t ++ (b2 ++ 61 :: (b3 ++ 34 :: q)) := by
                obtain ⟨c, s, ec, hc⟩ := token_first ht
                refine trim_hard ⟨c, s ++ (b2 ++ 61 :: (b3 ++ 34 :: q)), by rw [ec]; rfl, hc⟩ ⟨t ++ (b2 ++ 61 :: (b3 ++ 34 :: p)), 34, by rw [q4]; simp, by decide⟩
              rw [trim_around k1 k4, hx, dirR_eq ht k2, hq]
              have hn : token (34 :: q) = false := by
                unfold token; rw [List.all_cons, show signB 34 = false from by decide]; rfl
              rw [hn, if_neg (by decide), ← h.1]
              unfold quotR
              simp only
              rw [if_pos trivial, q3]; rfl
          · rename_i h34
            obtain ⟨hvt, b3, k3, e3⟩ := wordS_split hv
            refine ⟨b1 ++ (t ++ (b2 ++ 61 :: (b3 ++ v))) ++ b4, m, by rw [el, e2, e3, e4]; simp, hm, ?_, ?_⟩
            · refine bal_plain (all_app (all_app (plain_bl k1) (all_app (plain_tok ht) (all_app (plain_bl k2) (fun c hc => ?_)))) (plain_bl k4))
              rcases List.mem_cons.1 hc with rfl | hc
              · decide
              · exact all_app (plain_bl k3) (plain_tok hvt) c hc
            · have hq : trim (b3 ++ v) = v := by
                have := trim_around (b := b3) (b' := []) k3 (fun _ h => by cases h) v
                rw [List.append_nil] at this
                rw [this]; exact trim_tok hvt
              have hx : trim (t ++ (b2 ++ 61 :: (b3 ++ v))) = t ++ (b2 ++ 61 :: (b3 ++ v)) := by
                obtain ⟨c, s, ec, hc⟩ := token_first ht
                obtain ⟨s', c', ec', hc'⟩ := token_last hvt
                refine trim_hard ⟨c, s ++ (b2 ++ 61 :: (b3 ++ v)), by rw [ec]; rfl, hc⟩ ⟨t ++ (b2 ++ 61 :: (b3 ++ s')), c', by rw [ec']; simp, hc'⟩
              rw [trim_around k1 k4, hx, dirR_eq ht k2, hq, if_pos hvt, ← h.1]
theorem trim_nil_bl {a : List UInt8} (h : trim a = []) : Bl a := by
  obtain ⟨b, b', hb, hb', e⟩ := trim_split a
  rw [h, List.append_nil] at e
  rw [e]; exact bl_append hb hb'
theorem bl_trim_nil {a : List UInt8} (h : Bl a) : trim a = [] := by
  have := trim_around (b := a) (b' := []) h (fun _ h => by cases h) []
  rw [List.append_nil, List.append_nil] at this
  rw [this]; rfl
theorem parts_of_bal {a m : List UInt8} (h : balE false false a = some false) : partsE false false [] (a ++ m) = partsE false false a m := by
  have := parts_bal m a false false [] h
  simpa using this
theorem parts_at {a r : List UInt8} : partsE false false a (59 :: r) = a :: partsE false false [] r := by
  rw [partsE, if_neg (by decide), if_neg (by decide), if_neg (by decide), if_pos ⟨rfl, rfl⟩]
theorem fold_run : ∀ (n : Nat) (l : List UInt8) (st : Wst), l.length = n → (partsE false false [] l).foldl stepR (some st) = run l st := by
  intro n
  induction n using Nat.strongRecOn with
  | _ n ih =>
    intro l st hn
    obtain ⟨a, m, el, hp⟩ := parts_first l false false []
    by_cases hx : trim a = []
    · have hb := trim_nil_bl hx
      have hst : stepR (some st) a = some st := by unfold stepR; rw [Option.bind_some, if_pos hx]
      rcases hp with ⟨rfl, hp⟩ | ⟨r, rfl, hp⟩
      · rw [hp, List.nil_append, List.foldl_cons, hst, List.foldl_nil, run_end]
        rw [el, List.append_nil]
        have := bl_trimL hb []
        rw [List.append_nil] at this
        rw [this]; rfl
      · rw [hp, List.nil_append, List.foldl_cons, hst, ih r.length (by rw [← hn, el]; simp; omega) r st rfl, el, ← run_trimL (a ++ 59 :: r), bl_trimL hb, run_trimL, run_semi]
    · have hs59 : atS 59 l = none := by
        cases hs : atS 59 l with
        | none => rfl
        | some r =>
          obtain ⟨b, hb, eb⟩ := atS_split hs
          have h1 : partsE false false [] l = b :: partsE false false [] r := by
            rw [eb, parts_of_bal (bal_plain (plain_bl hb)), parts_at]
          have : a = b := by
            rcases hp with ⟨_, hp⟩ | ⟨_, _, hp⟩
            · rw [hp] at h1; injection h1
            · rw [hp] at h1; injection h1
          rw [this] at hx
          exact absurd (bl_trim_nil hb) hx
      obtain ⟨b1, b2, k1, k2, ea⟩ := trim_split a
      have hne : trimL l ≠ [] := by
        intro h
        obtain ⟨b, hb, eb⟩ := trimL_split l
        rw [h, List.append_nil] at eb
        refine hx (bl_trim_nil fun c hc => ?_)
        refine hb c ?_
        rw [← eb, el]
        exact List.mem_append_left _ hc
      have hm : Tail m := by
        rcases hp with ⟨h, _⟩ | ⟨r, h, _⟩
        · exact .inl h
        · exact .inr ⟨r, h⟩
      rw [run_one hne]
      have hone : oneS l st = dirS l st := by unfold oneS; rw [hs59]
      rw [hone, dirS_dL]
      have hhead : ∃ rest, partsE false false [] l = a :: rest ∧ ((m = [] ∧ rest = []) ∨ ∃ r, m = 59 :: r ∧ rest = partsE false false [] r) := by
        rcases hp with ⟨h, hp⟩ | ⟨r, h, hp⟩
        · exact ⟨[], by rw [hp, List.nil_append], .inl ⟨h, rfl⟩⟩
        · exact ⟨_, by rw [hp, List.nil_append], .inr ⟨r, h, rfl⟩⟩
      obtain ⟨rest, hr, hrest⟩ := hhead
      rw [hr, List.foldl_cons]
      cases hd : dirR (trim a) with
      | none =>
        have hst : stepR (some st) a = none := by unfold stepR; rw [Option.bind_some, if_neg hx, hd]; rfl
        have hL : dL l = none := by
          cases h : dL l with
          | none => rfl
          | some z =>
            obtain ⟨a', m', e', hm', hbal, hd'⟩ := dL_inv (d := z.1) (r := z.2) h
            have : a' = a := by
              rw [e', parts_of_bal hbal] at hr
              rcases hm' with rfl | ⟨r, rfl⟩
              · rw [partsE] at hr; injection hr
              · rw [parts_at] at hr; injection hr
            rw [this, hd] at hd'; cases hd'
        rw [hst, fold_none, hL]; rfl
      | some d =>
        have hL : dL l = some (d, m.drop 1) := by
          have := dL_of k1 k2 hm hd
          rw [el, ea]
          simpa using this
        rw [hL]
        have hst : stepR (some st) a = if st.told.contains d.1 then none else setS st d.1 d.2.1 d.2.2 := by unfold stepR; rw [Option.bind_some, if_neg hx, hd]; rfl
        rw [hst]
        simp only [Option.bind_some]
        split
        · rw [fold_none]; rfl
        · cases hset : setS st d.1 d.2.1 d.2.2 with
          | none => rw [fold_none]; rfl
          | some st' =>
            simp only [Option.map_some, Option.bind_some]
            rcases hrest with ⟨rfl, rfl⟩ | ⟨r, rfl, rfl⟩
            · rfl
            · exact ih r.length (by rw [← hn, el]; simp; omega) r st' rfl
theorem ref_eq (l : List UInt8) : refS l = parseS l := by
  unfold refS
  rw [fold_run _ l _ rfl, parse_run]
end Go.Proofs.YtnmdcbneoipllaaDoor
