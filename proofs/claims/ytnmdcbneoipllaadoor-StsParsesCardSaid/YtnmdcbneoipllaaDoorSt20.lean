/- Plain laws of chapter 11: what one directive does to what is told, over lists of bytes. -/
import Derived.Test.YtnmdcbneoipllaaDoorSt10
import Derived.Test.YtnmdcbneoipllaaDoorSpec01e
namespace Go.Proofs.YtnmdcbneoipllaaDoor
open Go.Lib Go.Proofs.Foot

theorem sign_facts {c : UInt8} (h : signB c = true) : stopB c = false ∧ blankB c = false ∧ c ≠ 59 ∧ c ≠ 34 ∧ c ≠ 61 := by
  have := all_u8 (fun c => !signB c || (!stopB c && !blankB c && c != 59 && c != 34 && c != 61)) (by decide +kernel) c
  simp [h] at this
  exact ⟨this.1.1.1.1, this.1.1.1.2, this.1.1.2, this.1.2, this.2⟩
theorem sign_dig {c : UInt8} (h : digB c = true) : signB c = true := by
  have := all_u8 (fun c => !digB c || signB c) (by decide +kernel) c
  simpa [h] using this
/-- Nothing, or a byte that ends a word. -/
def Stop (m : List UInt8) : Prop := ∀ c r, m = c :: r → stopB c = true
theorem Stop.nil : Stop [] := fun _ _ h => by cases h
theorem Stop.cons {c : UInt8} {r : List UInt8} (h : stopB c = true) : Stop (c :: r) := fun d s e => by injection e with e _; rw [← e]; exact h
theorem word_stop {t m : List UInt8} (ht : ∀ c ∈ t, stopB c = false) (hm : Stop m) : wordW (t ++ m) = t ∧ wordR (t ++ m) = m := by
  unfold wordW wordR
  induction t with
  | nil =>
    cases m with
    | nil => exact ⟨rfl, rfl⟩
    | cons c r =>
      have := hm c r rfl
      rw [List.nil_append, List.takeWhile_cons, List.dropWhile_cons, this]
      exact ⟨rfl, rfl⟩
  | cons c t ih =>
    have hc := ht c (by simp)
    obtain ⟨a, b⟩ := ih fun d hd => ht d (List.mem_cons_of_mem _ hd)
    rw [List.cons_append, List.takeWhile_cons, List.dropWhile_cons, hc]
    exact ⟨by simp only [Bool.not_false, if_true]; rw [a], by simp only [Bool.not_false, if_true]; rw [b]⟩
theorem token_cons {t : List UInt8} (ht : token t = true) : ∃ c l, t = c :: l ∧ signB c = true := by
  cases t with
  | nil => simp [token] at ht
  | cons c l => exact ⟨c, l, rfl, by simp [token] at ht; exact ht.1⟩
theorem token_all {t : List UInt8} (ht : token t = true) : ∀ c ∈ t, signB c = true := by
  intro c hc
  unfold token at ht
  rw [Bool.and_eq_true] at ht
  exact List.all_eq_true.1 ht.1 c hc
theorem token_mk {t : List UInt8} (h : ∀ c ∈ t, signB c = true) (hn : t ≠ []) : token t = true := by
  unfold token
  rw [Bool.and_eq_true]
  refine ⟨List.all_eq_true.2 h, ?_⟩
  cases t with
  | nil => exact absurd rfl hn
  | cons _ _ => rfl
theorem trimL_tok {t : List UInt8} (ht : token t = true) (m : List UInt8) : trimL (t ++ m) = t ++ m := by
  obtain ⟨c, l, rfl, hc⟩ := token_cons ht
  exact trimL_no (sign_facts hc).2.1 _
theorem word_at {t m : List UInt8} (ht : token t = true) (hm : Stop m) : wordS (t ++ m) = some (t, m) := by
  unfold wordS
  rw [trimL_tok ht]
  obtain ⟨a, b⟩ := word_stop (t := t) (fun c hc => (sign_facts (token_all ht c hc)).1) hm
  rw [a, b, ht]; rfl
theorem atS_tok {t : List UInt8} (ht : token t = true) (m : List UInt8) {x : UInt8} (hx : x = 59 ∨ x = 34 ∨ x = 61) : atS x (t ++ m) = none := by
  unfold atS
  rw [trimL_tok ht]
  obtain ⟨c, l, rfl, hc⟩ := token_cons ht
  obtain ⟨_, _, h1, h2, h3⟩ := sign_facts hc
  show (if c = x then _ else _) = _
  rw [if_neg]
  rcases hx with rfl | rfl | rfl <;> assumption
theorem atS_hit (c : UInt8) (hc : blankB c = false) (r : List UInt8) : atS c (c :: r) = some r := by
  unfold atS
  rw [trimL_no hc]
  show (if c = c then _ else _) = _
  rw [if_pos rfl]
theorem atS_miss {c d : UInt8} (hd : blankB d = false) (h : d ≠ c) (r : List UInt8) : atS c (d :: r) = none := by
  unfold atS
  rw [trimL_no hd]
  show (if d = c then _ else _) = _
  rw [if_neg h]
theorem atS_nil (c : UInt8) : atS c [] = none := rfl
theorem atS_blank {c d : UInt8} (hd : blankB d = true) (r : List UInt8) : atS c (d :: r) = atS c r := by
  unfold atS; rw [trimL_yes hd]

/-- The whole run on a text. -/
def run (l : List UInt8) (st : Wst) : Option Wst := runS (l.length + 1) l st
theorem parse_run (l : List UInt8) : parseS l = finS (run l ⟨[], 0, false⟩) := rfl
theorem run_end {l : List UInt8} (h : trimL l = []) (st : Wst) : run l st = some st := by
  unfold run; rw [runS, h]
theorem run_one {l : List UInt8} (h : trimL l ≠ []) (st : Wst) : run l st = (oneS l st).bind fun p => run p.1 p.2 := by
  unfold run
  rw [runS]
  cases hc : trimL l with
  | nil => exact absurd hc h
  | cons d r =>
    cases ho : oneS l st with
    | none => rfl
    | some p =>
      have := oneS_len (r := p.1) (st' := p.2) ho
      simp only [Option.bind_some]
      exact runS_fuel _ _ _ _ (by omega) (by omega)
theorem run_trimL (l : List UInt8) (st : Wst) : run (trimL l) st = run l st := by
  unfold run
  rw [runS_trimL]
  by_cases h : l.length = (trimL l).length
  · rw [h]
  · have := trimL_len l
    rw [← runS_trimL, ← runS_trimL (l.length + 1)]
    exact runS_fuel _ _ _ _ (by omega) (by omega)
theorem run_blank {d : UInt8} (hd : blankB d = true) (r : List UInt8) (st : Wst) : run (d :: r) st = run r st := by
  rw [← run_trimL (d :: r), trimL_yes hd, run_trimL]
theorem run_semi (r : List UInt8) (st : Wst) : run (59 :: r) st = run r st := by
  rw [run_one (by rw [trimL_no (by decide)]; simp)]
  unfold oneS
  rw [atS_hit 59 (by decide)]; rfl
/-- One directive whose name is a token, and what stands behind it. -/
theorem run_tok {t m : List UInt8} (ht : token t = true) (hm : Stop m) (st : Wst) :
    run (t ++ m) st = if st.told.contains (lower t) then none else (saysS m).bind fun q => (setS st (lower t) q.1 q.2.1).bind fun st' => (endS q.2.2).bind fun r => run r st' := by
  rw [run_one (by
    rw [trimL_tok ht]
    obtain ⟨c, l, rfl, _⟩ := token_cons ht
    simp)]
  unfold oneS
  rw [atS_tok ht m (.inl rfl)]
  show (dirS (t ++ m) st).bind _ = _
  unfold dirS
  rw [word_at ht hm]
  simp only [Option.bind_some]
  split
  · rfl
  · cases saysS m with
    | none => rfl
    | some q =>
      simp only [Option.bind_some]
      cases setS st (lower t) q.1 q.2.1 with
      | none => rfl
      | some st' =>
        simp only [Option.bind_some]
        cases endS q.2.2 with
        | none => rfl
        | some r => rfl
theorem says_nil : saysS [] = some ([], false, []) := rfl
theorem says_semi (r : List UInt8) : saysS (59 :: r) = some ([], false, 59 :: r) := by
  unfold saysS; rw [atS_miss (by decide) (by decide)]
theorem says_val (r : List UInt8) : saysS (61 :: r) = (valS r).map fun p => (p.1, true, p.2) := by
  unfold saysS; rw [atS_hit 61 (by decide)]
theorem says_blank {d : UInt8} (hd : blankB d = true) {r q : List UInt8} (h : atS 61 r = some q) : saysS (d :: r) = (valS q).map fun p => (p.1, true, p.2) := by
  unfold saysS; rw [atS_blank hd, h]
theorem val_tok {v m : List UInt8} (hv : token v = true) (hm : Stop m) : valS (v ++ m) = some (v, m) := by
  unfold valS; rw [atS_tok hv m (.inr (.inl rfl))]; exact word_at hv hm
theorem val_quo (r : List UInt8) : valS (34 :: r) = quoS false [] r := by
  unfold valS; rw [atS_hit 34 (by decide)]
theorem val_blank {d : UInt8} (hd : blankB d = true) (r : List UInt8) : valS (d :: r) = valS r := by
  unfold valS; rw [atS_blank hd]
  have : wordS (d :: r) = wordS r := by rw [← wordS_trimL (d :: r), trimL_yes hd, wordS_trimL]
  rw [this]
theorem end_nil : endS [] = some [] := rfl
theorem end_semi (r : List UInt8) : endS (59 :: r) = some r := by
  unfold endS; rw [trimL_no (by decide)]; rfl
theorem end_bad {d : UInt8} (hd : blankB d = false) (h : d ≠ 59) (r : List UInt8) : endS (d :: r) = none := by
  unfold endS; rw [trimL_no hd]
  show (if d = 59 then _ else _) = _
  rw [if_neg h]
theorem quo_plain {v : List UInt8} (hv : ∀ c ∈ v, ctlB c = false ∧ c ≠ 34 ∧ c ≠ 92) (r : List UInt8) : ∀ acc, quoS false acc (v ++ 34 :: r) = some (acc ++ v, r) := by
  induction v with
  | nil =>
    intro acc
    rw [List.nil_append, quoS]
    rw [if_neg (by decide)]; simp
  | cons c v ih =>
    intro acc
    obtain ⟨h1, h2, h3⟩ := hv c (by simp)
    rw [List.cons_append, quoS, h1, if_neg (by decide)]
    simp only [Bool.false_eq_true, if_false, h2, h3]
    rw [ih (fun d hd => hv d (List.mem_cons_of_mem _ hd))]; simp
theorem dig_plain {c : UInt8} (h : digB c = true) : ctlB c = false ∧ c ≠ 34 ∧ c ≠ 92 := by
  have := all_u8 (fun c => !digB c || (!ctlB c && c != 34 && c != 92)) (by decide +kernel) c
  simp [h] at this
  exact ⟨this.1.1, this.1.2, this.2⟩
theorem age_digs {v : List UInt8} (hv : ∀ c ∈ v, digB c = true) (hn : v ≠ []) : ageS v = some (min (digV 0 v) 2147483647) := by
  unfold ageS
  rw [if_pos ⟨by cases v with
    | nil => exact absurd rfl hn
    | cons _ _ => rfl, List.all_eq_true.2 hv⟩]
theorem age_other {v : List UInt8} (h : ∃ c ∈ v, digB c = false) : ageS v = none := by
  unfold ageS
  rw [if_neg]
  rintro ⟨_, h2⟩
  obtain ⟨c, hc, hd⟩ := h
  rw [List.all_eq_true.1 h2 c hc] at hd; cases hd
theorem age_empty : ageS [] = none := rfl
theorem set_age {t : List UInt8} (h : lower t = maxAgeL) (st : Wst) (v : List UInt8) (b : Bool) : setS st (lower t) v b = (ageS v).map fun a => ⟨maxAgeL :: st.told, a, st.subs⟩ := by
  unfold setS; rw [if_pos h, h]
theorem set_incl {t : List UInt8} (h : lower t = inclL) (st : Wst) (v : List UInt8) : setS st (lower t) v false = some ⟨inclL :: st.told, st.age, true⟩ := by
  unfold setS; rw [if_neg (by rw [h]; decide), if_pos h, h]; rfl
theorem set_other {t : List UInt8} (h1 : lower t ≠ maxAgeL) (h2 : lower t ≠ inclL) (st : Wst) (v : List UInt8) (b : Bool) : setS st (lower t) v b = some ⟨lower t :: st.told, st.age, st.subs⟩ := by
  unfold setS; rw [if_neg h1, if_neg h2]
/-- max-age = digits. -/
theorem run_age {t v m : List UInt8} (ht : token t = true) (hl : lower t = maxAgeL) (hv : ∀ c ∈ v, digB c = true) (hn : v ≠ []) (hm : Stop m) (st : Wst) (hc : st.told.contains maxAgeL = false) :
    run (t ++ 61 :: (v ++ m)) st = (endS m).bind fun r => run r ⟨maxAgeL :: st.told, min (digV 0 v) 2147483647, st.subs⟩ := by
  rw [run_tok ht (Stop.cons (by decide)), hl, hc, says_val, val_tok (token_mk (fun c h => sign_dig (hv c h)) hn) hm]
  simp only [Bool.false_eq_true, if_false, Option.map_some, Option.bind_some]
  have := set_age hl st v true
  rw [hl] at this
  rw [this, age_digs hv hn]; rfl
/-- What stands behind a name that has no value. -/
def Bare (m : List UInt8) : Prop := Stop m ∧ saysS m = some ([], false, m)
theorem Bare.nil : Bare [] := ⟨Stop.nil, rfl⟩
theorem Bare.semi (r : List UInt8) : Bare (59 :: r) := ⟨Stop.cons (by decide), says_semi r⟩
theorem Bare.blank (r : List UInt8) : Bare (32 :: 59 :: r) := ⟨Stop.cons (by decide), by
  unfold saysS; rw [atS_blank (by decide), atS_miss (by decide) (by decide)]⟩
/-- includeSubDomains. -/
theorem run_incl {t m : List UInt8} (ht : token t = true) (hl : lower t = inclL) (hm : Bare m) (st : Wst) (hc : st.told.contains inclL = false) :
    run (t ++ m) st = (endS m).bind fun r => run r ⟨inclL :: st.told, st.age, true⟩ := by
  rw [run_tok ht hm.1, hl, hc, hm.2]
  simp only [Bool.false_eq_true, if_false, Option.bind_some]
  have := set_incl hl st []
  rw [hl] at this
  rw [this]; rfl
/-- A name that is not known, without a value. -/
theorem run_name {t m : List UInt8} (ht : token t = true) (h1 : lower t ≠ maxAgeL) (h2 : lower t ≠ inclL) (hm : Bare m) (st : Wst) (hc : st.told.contains (lower t) = false) :
    run (t ++ m) st = (endS m).bind fun r => run r ⟨lower t :: st.told, st.age, st.subs⟩ := by
  rw [run_tok ht hm.1, hc, hm.2]
  simp only [Bool.false_eq_true, if_false, Option.bind_some]
  rw [set_other h1 h2]; rfl
/-- A name that was told. -/
theorem run_told {t m : List UInt8} (ht : token t = true) (hm : Stop m) (st : Wst) (hc : st.told.contains (lower t) = true) : run (t ++ m) st = none := by
  rw [run_tok ht hm, hc, if_pos rfl]
theorem end_blank (r : List UInt8) : endS (32 :: r) = endS r := by unfold endS; rw [trimL_yes (by decide)]
theorem run_nil (st : Wst) : run [] st = some st := rfl

/-- The bytes of a wish's text. -/
def wishL (n : Nat) (b : Bool) : List UInt8 := maxAgeL ++ 61 :: (Lib.decDigits n ++ bif b then [59, 32, 105, 110, 99, 108, 117, 100, 101, 83, 117, 98, 68, 111, 109, 97, 105, 110, 115] else [])
theorem wishT_l (n : Nat) (b : Bool) : (wishT n b).data.toList = wishL n b := by
  unfold wishT wishL
  cases b
  · simp only [cond_false]
    rw [cat_l, decT_l, List.append_nil]; rfl
  · simp only [cond_true]
    rw [cat_l, cat_l, decT_l, List.append_assoc]; rfl
def inclT : List UInt8 := [105, 110, 99, 108, 117, 100, 101, 83, 117, 98, 68, 111, 109, 97, 105, 110, 115]
/-- What a wish's text has told. -/
def wishSt (n : Nat) (b : Bool) (st : Wst) : Wst := bif b then ⟨inclL :: maxAgeL :: st.told, n, true⟩ else ⟨maxAgeL :: st.told, n, st.subs⟩
theorem run_wish (n : Nat) (b : Bool) (hn : n ≤ 2147483647) (m : List UInt8) (hm : Bare m) (st : Wst) (h1 : st.told.contains maxAgeL = false) (h2 : st.told.contains inclL = false) : run (wishL n b ++ m) st = (endS m).bind fun r => run r (wishSt n b st) := by
  have hmin : min (digV 0 (Lib.decDigits n)) 2147483647 = n := by rw [digV_decDigits]; omega
  cases b with
  | false =>
    have e : wishL n false ++ m = maxAgeL ++ 61 :: (Lib.decDigits n ++ m) := by simp [wishL]
    rw [e, run_age (by decide) (by decide) (decDigits_all n) (decDigits_ne n) hm.1 _ h1, hmin]; rfl
  | true =>
    have e : wishL n true ++ m = maxAgeL ++ 61 :: (Lib.decDigits n ++ (59 :: 32 :: (inclT ++ m))) := by simp [wishL, inclT]
    rw [e, run_age (by decide) (by decide) (decDigits_all n) (decDigits_ne n) (Stop.cons (by decide)) _ h1, hmin, end_semi]
    simp only [Option.bind_some]
    rw [run_blank (by decide), run_incl (by decide) (by decide) hm _ (by rw [List.contains_cons, h2]; decide)]; rfl
/-- What is told before anything is. -/
def st0 : Wst := ⟨[], 0, false⟩
theorem fin_wish (n : Nat) (b : Bool) : finS (some (wishSt n b st0)) = some (n, b) := by cases b <;> rfl
theorem parse_wish (n : Nat) (b : Bool) (hn : n ≤ 2147483647) : parseS (wishL n b) = some (n, b) := by
  have := run_wish n b hn [] Bare.nil st0 rfl rfl
  rw [List.append_nil] at this
  rw [parse_run]
  exact (congrArg finS this).trans (fin_wish n b)
end Go.Proofs.YtnmdcbneoipllaaDoor
