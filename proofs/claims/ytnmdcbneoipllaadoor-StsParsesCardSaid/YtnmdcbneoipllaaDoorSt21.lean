/- Plain laws of chapter 11: what the outright laws' texts say, over lists of bytes. -/
import Derived.Test.YtnmdcbneoipllaaDoorSt20
namespace Go.Proofs.YtnmdcbneoipllaaDoor
open Go.Lib Go.Proofs.Foot

def inclU : List UInt8 := [73, 78, 67, 76, 85, 68, 69, 83, 85, 66, 68, 79, 77, 65, 73, 78, 83]
def maxG : List UInt8 := [77, 97, 120, 45, 65, 103, 101]
/-- Max-Age = "digits", behind the other one. -/
theorem back_quoted {n : Nat} {v : List UInt8} (b : Bool) (hn : n ≤ 2147483647) (hv : ∀ c ∈ v, digB c = true) (hne : v ≠ []) (hd : digV 0 v = n) :
    parseS ((bif b then inclU else []) ++ 32 :: 59 :: 9 :: (maxG ++ 9 :: 61 :: 32 :: 34 :: (v ++ [34]))) = some (n, b) := by
  have hmin : min (digV 0 v) 2147483647 = n := by rw [hd]; omega
  have tail : ∀ st : Wst, st.told.contains maxAgeL = false → run (maxG ++ 9 :: 61 :: 32 :: 34 :: (v ++ [34])) st = some ⟨maxAgeL :: st.told, n, st.subs⟩ := by
    intro st hc
    have hl : lower maxG = maxAgeL := by decide
    rw [run_tok (by decide) (Stop.cons (by decide)), hl, hc, says_blank (by decide) (atS_hit 61 (by decide) _), val_blank (by decide), val_quo, quo_plain (fun c h => dig_plain (hv c h))]
    simp only [Bool.false_eq_true, if_false, Option.map_some, Option.bind_some, List.nil_append]
    have := set_age hl st v true
    rw [hl] at this
    rw [this, age_digs hv hne, hmin]; rfl
  rw [parse_run]
  cases b with
  | false =>
    rw [cond_false, List.nil_append, run_blank (by decide), run_semi, run_blank (by decide), tail _ rfl]; rfl
  | true =>
    rw [cond_true, run_incl (by decide) (by decide) (Bare.blank _) _ rfl, end_blank, end_semi]
    simp only [Option.bind_some]
    rw [run_blank (by decide), tail _ (by decide)]; rfl
/-- max-age=digits ahead of the other one. -/
theorem back_other {n : Nat} {v : List UInt8} (b : Bool) (hn : n ≤ 2147483647) (hv : ∀ c ∈ v, digB c = true) (hne : v ≠ []) (hd : digV 0 v = n) :
    parseS (maxAgeL ++ 61 :: (v ++ 59 :: (bif b then inclL else []))) = some (n, b) := by
  have hmin : min (digV 0 v) 2147483647 = n := by rw [hd]; omega
  rw [parse_run, run_age (by decide) (by decide) hv hne (Stop.cons (by decide)) _ rfl, end_semi, hmin]
  simp only [Option.bind_some]
  cases b with
  | false => rfl
  | true =>
    rw [cond_true]
    have hno : ([maxAgeL] : List (List UInt8)).contains inclL = false := by decide
    have := run_incl (t := inclL) (m := []) (by decide) (by decide) Bare.nil ⟨[maxAgeL], n, false⟩ hno
    rw [List.append_nil] at this
    rw [this]; rfl

theorem sign_low {c : UInt8} (h : signB c = true) : signB (lowB c) = true := by
  have := all_u8 (fun c => !signB c || signB (lowB c)) (by decide +kernel) c
  simpa [h] using this
theorem token_lower {t : List UInt8} (h : token t = true) : token (lower t) = true := by
  refine token_mk (fun c hc => ?_) ?_
  · obtain ⟨d, hd, rfl⟩ := List.mem_map.1 hc
    exact sign_low (token_all h d hd)
  · obtain ⟨c, l, rfl, _⟩ := token_cons h
    simp [lower]
theorem told_wish (n : Nat) (b : Bool) (l : List UInt8) : (wishSt n b st0).told.contains l = (decide (l = maxAgeL) || (b && decide (l = inclL))) := by
  have h0 : maxAgeL ≠ inclL := by decide
  cases b
  · show ([maxAgeL] : List (List UInt8)).contains l = _
    by_cases h : l = maxAgeL <;> simp [h]
  · show ([inclL, maxAgeL] : List (List UInt8)).contains l = _
    by_cases h : l = maxAgeL <;> by_cases h' : l = inclL <;> simp [h, h']
/-- A name twice behind a wish. -/
theorem once_twice {n : Nat} (b : Bool) (hn : n ≤ 2147483647) {t : List UInt8} (ht : token t = true) : parseS (wishL n b ++ 59 :: (t ++ 59 :: lower t)) = none := by
  rw [parse_run]
  have h := run_wish n b hn (59 :: (t ++ 59 :: lower t)) (Bare.semi _) st0 rfl rfl
  have : run (t ++ 59 :: lower t) (wishSt n b st0) = none := by
    have again : ∀ st : Wst, st.told.contains (lower t) = true → run (lower t) st = none := fun st hc => by
      have := run_told (m := []) (token_lower ht) Stop.nil st (by rw [lower_lower]; exact hc)
      rwa [List.append_nil] at this
    cases hc : (wishSt n b st0).told.contains (lower t) with
    | true => exact run_told ht (Stop.cons (by decide)) _ hc
    | false =>
      by_cases hi : lower t = inclL
      · rw [run_incl ht hi (Bare.semi _) _ (by rw [← hi]; exact hc), end_semi]
        exact again _ (by rw [hi]; simp)
      · have hm : lower t ≠ maxAgeL := fun h => by rw [told_wish, h] at hc; simp at hc
        rw [run_name ht hm hi (Bare.semi _) _ hc, end_semi]
        exact again _ (by simp)
  rw [end_semi, Option.bind_some, this] at h
  exact congrArg finS h
/-- A name that the wish's text has. -/
theorem once_again {n : Nat} (b : Bool) (hn : n ≤ 2147483647) {t : List UInt8} (ht : token t = true) (h : lower t = maxAgeL ∨ (lower t = inclL ∧ b = true)) : parseS (wishL n b ++ 59 :: t) = none := by
  rw [parse_run]
  have h1 := run_wish n b hn (59 :: t) (Bare.semi _) st0 rfl rfl
  have h2 : run t (wishSt n b st0) = none := by
    have := run_told (m := []) ht Stop.nil (wishSt n b st0) (by
      rw [told_wish]
      rcases h with h | ⟨h, h'⟩ <;> simp [*])
    rwa [List.append_nil] at this
  rw [end_semi, Option.bind_some, h2] at h1
  exact congrArg finS h1
/-- A name that it has not. -/
theorem once_more {n : Nat} (b : Bool) (hn : n ≤ 2147483647) {t : List UInt8} (ht : token t = true) (h : ¬ (lower t = maxAgeL ∨ (lower t = inclL ∧ b = true))) : parseS (wishL n b ++ 59 :: t) = some (n, b || decide (lower t = inclL)) := by
  rw [parse_run]
  have h1 := run_wish n b hn (59 :: t) (Bare.semi _) st0 rfl rfl
  have hm : lower t ≠ maxAgeL := fun e => h (.inl e)
  have hc : (wishSt n b st0).told.contains (lower t) = false := by
    rw [told_wish]
    cases b <;> simp_all
  rw [end_semi, Option.bind_some] at h1
  refine (congrArg finS h1).trans ?_
  by_cases hi : lower t = inclL
  · have := run_incl (m := []) ht hi Bare.nil (wishSt n b st0) (by rw [← hi]; exact hc)
    rw [List.append_nil] at this
    rw [this]
    cases b
    · simp [hi]; rfl
    · exact absurd (.inr ⟨hi, rfl⟩) h
  · have := run_name (m := []) ht hm hi Bare.nil (wishSt n b st0) hc
    rw [List.append_nil] at this
    rw [this]
    cases b
    · simp [hi, end_nil, run_nil, finS, wishSt, st0]
    · simp [hi, end_nil, run_nil, finS, wishSt, st0]
theorem once_alone {t : List UInt8} (ht : token t = true) (h : lower t ≠ maxAgeL) : parseS t = none := by
  rw [parse_run]
  by_cases hi : lower t = inclL
  · have := run_incl (m := []) ht hi Bare.nil ⟨[], 0, false⟩ rfl
    rw [List.append_nil] at this
    rw [this]; decide
  · have := run_name (m := []) ht h hi Bare.nil ⟨[], 0, false⟩ rfl
    rw [List.append_nil] at this
    rw [this]
    have h' : ¬ maxAgeL = lower t := fun e => h e.symm
    simp [end_nil, run_nil, finS, h']
theorem once_one {t : List UInt8} (ht : token t = true) (h : lower t ≠ maxAgeL) : parseS (t ++ 61 :: 49 :: 59 :: (lower t ++ [61, 49])) = none := by
  rw [parse_run, run_tok ht (Stop.cons (by decide)), says_val]
  have hv : valS (49 :: 59 :: (lower t ++ [61, 49])) = some ([49], 59 :: (lower t ++ [61, 49])) := val_tok (v := [49]) (by decide) (Stop.cons (by decide))
  rw [hv]
  show finS (if ([] : List (List UInt8)).contains (lower t) then none else _) = none
  rw [List.contains_nil, if_neg (by decide)]
  simp only [Option.map_some, Option.bind_some]
  by_cases hi : lower t = inclL
  · rw [hi]; rfl
  · rw [set_other h hi]
    simp only [Option.bind_some, end_semi]
    rw [run_told (token_lower ht) (Stop.cons (by decide)) _ (by rw [lower_lower]; simp)]; rfl

theorem ages_ok (n : Nat) : parseS (maxAgeL ++ 61 :: Lib.decDigits n) = some (min n 2147483647, false) := by
  have := run_age (t := maxAgeL) (m := []) (by decide) (by decide) (decDigits_all n) (decDigits_ne n) Stop.nil ⟨[], 0, false⟩ rfl
  rw [List.append_nil, digV_decDigits] at this
  rw [parse_run, this]; rfl
theorem quo_open : ∀ (l : List UInt8) (esc : Bool) (acc : List UInt8), (∀ c ∈ l, c ≠ 34) → quoS esc acc l = none
  | [], _, _, _ => rfl
  | c :: l, esc, acc, h => by
    have hr := fun d hd => h d (List.mem_cons_of_mem _ hd)
    rw [quoS]
    split
    · rfl
    · split
      · exact quo_open l _ _ hr
      · rw [if_neg (h c (by simp))]
        split
        · exact quo_open l _ _ hr
        · exact quo_open l _ _ hr
theorem word_none {l : List UInt8} (hb : trimL l = l) (h : token (wordW l) = false) : wordS l = none := by
  unfold wordS
  rw [hb, h]; rfl
theorem all_false_of {p : UInt8 → Bool} {l : List UInt8} (h : ∃ c ∈ l, p c = false) : l.all p = false := by
  obtain ⟨c, hc, hp⟩ := h
  rw [List.all_eq_false]; exact ⟨c, hc, by simp [hp]⟩
theorem token_nil : token [] = false := rfl
/-- Digits with another byte among them are no age. -/
theorem ages_bad {p q : List UInt8} {c : UInt8} (hp : ∀ d ∈ p, digB d = true) (hq : ∀ d ∈ q, digB d = true) (hc : digB c = false) (h32 : c ≠ 32) (h9 : c ≠ 9) (h59 : c ≠ 59) : parseS (maxAgeL ++ 61 :: (p ++ c :: q)) = none := by
  have hl : lower maxAgeL = maxAgeL := by decide
  have hbl : blankB c = false := by
    cases h : blankB c with
    | false => rfl
    | true => simp [blankB] at h; exact absurd h (by simp [h32, h9])
  have key : (saysS (61 :: (p ++ c :: q))).bind (fun r => (setS ⟨[], 0, false⟩ maxAgeL r.1 r.2.1).bind fun st' => (endS r.2.2).bind fun r => run r st') = none := by
    rw [says_val]
    have haged : ∀ v m, (endS m = none) ∨ (∃ d ∈ v, digB d = false) → ((some (v, m)).map fun (z : List UInt8 × List UInt8) => (z.1, true, z.2)).bind (fun r => (setS ⟨[], 0, false⟩ maxAgeL r.1 r.2.1).bind fun st' => (endS r.2.2).bind fun r => run r st') = none := by
      intro v m hh
      simp only [Option.map_some, Option.bind_some]
      have := set_age hl ⟨[], 0, false⟩ v true
      rw [hl] at this
      rw [this]
      rcases hh with hh | hh
      · rw [hh]
        cases ageS v <;> rfl
      · rw [age_other hh]; rfl
    have first : p ≠ [] → token p = true := fun hn => token_mk (fun d hd => sign_dig (hp d hd)) hn
    cases hs : signB c with
    | true =>
      have ht : token (p ++ c :: q) = true := token_mk (fun d hd => by
        rcases List.mem_append.1 hd with hd | hd
        · exact sign_dig (hp d hd)
        · rcases List.mem_cons.1 hd with rfl | hd
          · exact hs
          · exact sign_dig (hq d hd)) (by simp)
      have := val_tok (m := []) ht Stop.nil
      rw [List.append_nil] at this
      rw [this]
      exact haged _ _ (.inr ⟨c, by simp, hc⟩)
    | false =>
      cases hst : stopB c with
      | true =>
        by_cases hpn : p = []
        · subst hpn
          have hv : valS ([] ++ c :: q) = none := by
            rw [List.nil_append]
            by_cases h34 : c = 34
            · rw [h34, val_quo]
              exact quo_open _ _ _ (fun d hd => (dig_plain (hq d hd)).2.1)
            · unfold valS
              rw [atS_miss hbl h34]
              refine word_none (trimL_no hbl _) ?_
              unfold wordW
              rw [List.takeWhile_cons, hst]; rfl
          rw [hv]; rfl
        · rw [val_tok (first hpn) (Stop.cons hst)]
          exact haged _ _ (.inl (end_bad hbl h59 _))
      | false =>
        have hv : valS (p ++ c :: q) = none := by
          have hall : ∀ d ∈ p ++ c :: q, stopB d = false := fun d hd => by
            rcases List.mem_append.1 hd with hd | hd
            · exact (sign_facts (sign_dig (hp d hd))).1
            · rcases List.mem_cons.1 hd with rfl | hd
              · exact hst
              · exact (sign_facts (sign_dig (hq d hd))).1
          have htr : trimL (p ++ c :: q) = p ++ c :: q ∧ atS 34 (p ++ c :: q) = none := by
            by_cases hpn : p = []
            · subst hpn
              refine ⟨trimL_no hbl _, atS_miss hbl (fun e => ?_) _⟩
              rw [e] at hst; exact absurd hst (by decide)
            · exact ⟨trimL_tok (first hpn) _, atS_tok (first hpn) _ (.inr (.inl rfl))⟩
          unfold valS
          rw [htr.2]
          refine word_none htr.1 ?_
          have := (word_stop (m := []) hall Stop.nil).1
          rw [List.append_nil] at this
          rw [this]
          unfold token
          rw [all_false_of (l := p ++ c :: q) ⟨c, by simp, hs⟩]; rfl
        rw [hv]; rfl
  rw [parse_run, run_tok (t := maxAgeL) (by decide) (Stop.cons (by decide)), hl]
  exact congrArg finS key
end Go.Proofs.YtnmdcbneoipllaaDoor
