/- Plain laws of chapter 11: a quotation mark that is not closed; directives that are not known. -/
import Derived.Test.YtnmdcbneoipllaaDoorSt21
namespace Go.Proofs.YtnmdcbneoipllaaDoor
open Go.Lib Go.Proofs.Foot

theorem cnt_dropWhile {p : UInt8 → Bool} (hp : p 34 = false) (l : List UInt8) : (l.dropWhile p).count 34 = l.count 34 := by
  induction l with
  | nil => rfl
  | cons c l ih =>
    rw [List.dropWhile_cons]
    cases h : p c with
    | true =>
      have hc : c ≠ 34 := fun e => by rw [e, hp] at h; cases h
      simp only [if_true]
      rw [ih, List.count_cons, if_neg (by simpa using hc)]; rfl
    | false => simp
theorem cnt_trimL (l : List UInt8) : (trimL l).count 34 = l.count 34 := cnt_dropWhile (by decide) l
theorem cnt_atS {c : UInt8} (hc : c ≠ 34) {l r : List UInt8} (h : atS c l = some r) : r.count 34 = l.count 34 := by
  rw [← cnt_trimL l]
  unfold atS at h
  split at h
  · cases h
  · rename_i d t ht
    split at h
    · rename_i hd
      injection h with h
      rw [ht, List.count_cons, hd, if_neg (by simpa using hc), h]; rfl
    · cases h
theorem cnt_wordS {l v r : List UInt8} (h : wordS l = some (v, r)) : r.count 34 = l.count 34 := by
  unfold wordS at h
  split at h
  · injection h with h
    injection h with _ h
    rw [← cnt_trimL l, ← h]
    unfold wordR
    have e : ∀ m : List UInt8, (m.dropWhile fun c => !stopB c).count 34 = m.count 34 := fun m => cnt_dropWhile (p := fun c => !stopB c) (by decide) m
    exact e _
  · cases h
theorem cnt_end {l r : List UInt8} (hl : 0 < l.count 34) (h : endS l = some r) : r.count 34 = l.count 34 := by
  rw [← cnt_trimL l] at hl ⊢
  unfold endS at h
  split at h
  · rename_i ht; rw [ht] at hl; simp at hl
  · rename_i d t ht
    split at h
    · rename_i hd
      injection h with h
      rw [ht, List.count_cons, hd, h, if_neg (by decide)]; rfl
    · cases h
theorem cnt_says {l v r : List UInt8} {b : Bool} (hl : l.count 34 = 1) (h : saysS l = some (v, b, r)) : r.count 34 = 1 := by
  unfold saysS at h
  split at h
  · rename_i t ht
    have h1 : t.count 34 = 1 := (cnt_atS (by decide) ht).trans hl
    cases hv : valS t with
    | none => rw [hv] at h; cases h
    | some z =>
      rw [hv] at h
      simp at h
      have hz : z = (v, r) := by rw [← h.1, ← h.2.2]
      subst hz
      unfold valS at hv
      split at hv
      · rename_i u hu
        have h2 : u.count 34 = 0 := by
          rw [← cnt_trimL t] at h1
          unfold atS at hu
          split at hu
          · cases hu
          · rename_i d x hx
            split at hu
            · rename_i hd
              injection hu with hu
              rw [hx, List.count_cons, hd] at h1
              rw [← hu]
              simpa using h1
            · cases hu
        have h3 := quo_open u false [] (fun c hc e => by
          rw [e] at hc
          exact absurd (List.count_pos_iff.2 hc) (by omega))
        rw [h3] at hv; cases hv
      · exact (cnt_wordS hv).trans h1
  · injection h with h
    injection h with _ h
    injection h with _ h
    rw [← h]; exact hl
theorem cnt_one {l r : List UInt8} {st st' : Wst} (hl : l.count 34 = 1) (h : oneS l st = some (r, st')) : r.count 34 = 1 := by
  unfold oneS at h
  split at h
  · rename_i t ht
    injection h with h
    injection h with h _
    rw [← h]
    exact (cnt_atS (by decide) ht).trans hl
  · unfold dirS at h
    cases hw : wordS l with
    | none => rw [hw] at h; cases h
    | some p =>
      rw [hw] at h
      have h1 : p.2.count 34 = 1 := (cnt_wordS (v := p.1) (r := p.2) hw).trans hl
      simp only [Option.bind_some] at h
      split at h
      · cases h
      · cases hs : saysS p.2 with
        | none => rw [hs] at h; cases h
        | some q =>
          rw [hs] at h
          have h2 := cnt_says (v := q.1) (b := q.2.1) (r := q.2.2) h1 hs
          simp only [Option.bind_some] at h
          cases hst : setS st (lower p.1) q.1 q.2.1 with
          | none => rw [hst] at h; cases h
          | some s1 =>
            rw [hst] at h
            simp only [Option.bind_some] at h
            cases he : endS q.2.2 with
            | none => rw [he] at h; cases h
            | some e =>
              rw [he] at h
              have h3 := cnt_end (by omega) he
              simp at h
              rw [← h.1]; omega
/-- A text with one quotation mark says nothing. -/
theorem run_open : ∀ (n : Nat) (l : List UInt8) (st : Wst), l.length = n → l.count 34 = 1 → run l st = none := by
  intro n
  induction n using Nat.strongRecOn with
  | _ n ih =>
    intro l st hn hc
    have hne : trimL l ≠ [] := fun h => by rw [← cnt_trimL, h] at hc; simp at hc
    rw [run_one hne]
    cases ho : oneS l st with
    | none => rfl
    | some p =>
      have h1 := oneS_len (r := p.1) (st' := p.2) ho
      have h2 := cnt_one (r := p.1) (st' := p.2) hc ho
      exact ih p.1.length (by omega) p.1 p.2 rfl h2
/-- max-age=1; and one quotation mark somewhere behind. -/
theorem open_none {s t : List UInt8} (h : ∀ c ∈ s ++ t, c ≠ 34) : parseS (maxAgeL ++ 61 :: 49 :: 59 :: (s ++ 34 :: t)) = none := by
  rw [parse_run]
  have h0 : ∀ m : List UInt8, (∀ c ∈ m, c ≠ 34) → m.count 34 = 0 := fun m hm => List.count_eq_zero.2 (fun hc => hm 34 hc rfl)
  have h1 := h0 s (fun c hc => h c (List.mem_append_left _ hc))
  have h2 := h0 t (fun c hc => h c (List.mem_append_right _ hc))
  have hm : (maxAgeL ++ [61, 49, 59]).count 34 = 0 := by decide
  have e : maxAgeL ++ 61 :: 49 :: 59 :: (s ++ 34 :: t) = (maxAgeL ++ [61, 49, 59]) ++ (s ++ 34 :: t) := by simp
  rw [run_open _ _ _ rfl (by rw [e, List.count_append, hm, List.count_append, List.count_cons_self, h1, h2])]; rfl

/-- A value as it stands in quotes. -/
def escL (v : List UInt8) : List UInt8 := v.flatMap fun c => if c = 34 ∨ c = 92 then [92, c] else [c]
theorem escL_snoc (v : List UInt8) (c : UInt8) : escL (v ++ [c]) = escL v ++ if c = 34 ∨ c = 92 then [92, c] else [c] := by
  unfold escL; rw [List.flatMap_append]; simp
theorem escL_len (v : List UInt8) : (escL v).length ≤ 2 * v.length := by
  induction v with
  | nil => simp [escL]
  | cons c v ih =>
    unfold escL at ih ⊢
    rw [List.flatMap_cons, List.length_append, List.length_cons]
    split
    · show 2 + _ ≤ _; omega
    · show 1 + _ ≤ _; omega
theorem quo_esc {v : List UInt8} (hv : ∀ c ∈ v, ctlB c = false) (r : List UInt8) : ∀ acc, quoS false acc (escL v ++ 34 :: r) = some (acc ++ v, r) := by
  induction v with
  | nil =>
    intro acc
    show quoS false acc (34 :: r) = _
    rw [quoS, if_neg (by decide)]; simp
  | cons c v ih =>
    intro acc
    have hc := hv c (by simp)
    have ih' := ih (fun d hd => hv d (List.mem_cons_of_mem _ hd)) (acc ++ [c])
    have e : escL (c :: v) = (if c = 34 ∨ c = 92 then [92, c] else [c]) ++ escL v := by unfold escL; rw [List.flatMap_cons]
    rw [e]
    split
    · show quoS false acc (92 :: c :: (escL v ++ 34 :: r)) = _
      rw [quoS, if_neg (by decide)]
      simp only [Bool.false_eq_true, if_false]
      rw [if_neg (by decide), if_pos trivial, quoS, hc]
      simp only [Bool.false_eq_true, if_false, if_true]
      rw [ih']; simp
    · rename_i hn
      show quoS false acc (c :: (escL v ++ 34 :: r)) = _
      rw [quoS, hc]
      simp only [Bool.false_eq_true, if_false]
      rw [if_neg (fun h => hn (.inl h)), if_neg (fun h => hn (.inr h)), ih']; simp
/-- Unknown directives around a wish's text. -/
theorem others_is {n : Nat} (b : Bool) (hn : n ≤ 2147483647) {v : List UInt8} (hv : ∀ c ∈ v, ctlB c = false) :
    parseS (120 :: 61 :: 34 :: (escL v ++ 34 :: 59 :: (wishL n b ++ [59, 32, 121, 59, 32, 122, 61, 116]))) = some (n, b) := by
  rw [parse_run]
  have h1 := run_tok (t := [120]) (m := 61 :: 34 :: (escL v ++ 34 :: 59 :: (wishL n b ++ [59, 32, 121, 59, 32, 122, 61, 116]))) (by decide) (Stop.cons (by decide)) ⟨[], 0, false⟩
  rw [says_val, val_quo, quo_esc hv] at h1
  have e : lower [120] = [120] := by decide
  rw [e] at h1
  have hset := set_other (t := [120]) (by decide) (by decide) ⟨[], 0, false⟩ v true
  rw [e] at hset
  simp only [Option.map_some, Option.bind_some, List.nil_append, hset, end_semi] at h1
  have h2 := run_wish n b hn [59, 32, 121, 59, 32, 122, 61, 116] (Bare.semi _) ⟨[[120]], 0, false⟩ (by decide) (by decide)
  rw [end_semi, Option.bind_some] at h2
  have h3 := run_name (t := [121]) (m := [59, 32, 122, 61, 116]) (by decide) (by decide) (by decide) (Bare.semi _) (wishSt n b ⟨[[120]], 0, false⟩) (by cases b <;> rfl)
  rw [end_semi, Option.bind_some] at h3
  have h4 : ∀ st : Wst, st.told.contains [122] = false → run [122, 61, 116] st = some ⟨[122] :: st.told, st.age, st.subs⟩ := by
    intro st hc
    have h := run_tok (t := [122]) (m := 61 :: [116]) (by decide) (Stop.cons (by decide)) st
    have hval : valS [116] = some ([116], []) := by decide
    have e2 : lower [122] = [122] := by decide
    have hs := set_other (t := [122]) (by decide) (by decide) st [116] true
    rw [e2] at hs
    rw [e2, hc, says_val, hval] at h
    simp only [Bool.false_eq_true, if_false, Option.map_some, Option.bind_some, hs, end_nil, run_nil] at h
    exact h
  have h5 : run (wishL n b ++ [59, 32, 121, 59, 32, 122, 61, 116]) ⟨[[120]], 0, false⟩ = some ⟨[122] :: [121] :: (wishSt n b ⟨[[120]], 0, false⟩).told, n, b⟩ := by
    rw [h2, run_blank (by decide)]
    refine h3.trans ?_
    rw [run_blank (by decide), h4 _ (by cases b <;> rfl)]
    cases b <;> rfl
  rw [List.contains_nil, if_neg (by decide), h5] at h1
  refine (congrArg finS h1).trans ?_
  cases b <;> rfl
end Go.Proofs.YtnmdcbneoipllaaDoor
