/- The plain facts of chapter 01's outright laws, over lists of bytes. No program stands here. -/
import Derived.Test.YtiookngmgednjaaDoorSpec01c
import Derived.Test.YtiookngmgednjaaDoorSpec01d
import Derived.Lib.ItoaNum
namespace Go.Proofs.Foot

theorem digB_dig (u : Nat) (h : u < 10) : digB (UInt8.ofNat (48 + u)) = true := by
  rw [digB_iff, UInt8.toNat_ofNat']; omega
theorem dig_toNat (u : Nat) (h : u < 10) : (UInt8.ofNat (48 + u)).toNat = 48 + u := by
  rw [UInt8.toNat_ofNat']; omega
theorem decDigits_all (u : Nat) : ∀ c ∈ Lib.decDigits u, digB c = true := by
  induction u using Nat.strongRecOn with
  | _ u ih =>
    intro c hc
    by_cases h : u < 10
    · rw [Lib.decDigits, dif_pos h, List.mem_singleton] at hc
      rw [hc]; exact digB_dig u h
    · rw [Lib.decDigits, dif_neg h, List.mem_append, List.mem_singleton] at hc
      rcases hc with hc | hc
      · exact ih (u / 10) (by omega) c hc
      · rw [hc]; exact digB_dig _ (by omega)
theorem digV_decDigits (u : Nat) : digV 0 (Lib.decDigits u) = u := by
  induction u using Nat.strongRecOn with
  | _ u ih =>
    by_cases h : u < 10
    · rw [Lib.decDigits, dif_pos h, digV_cons, digV_nil, dig_toNat u h]; omega
    · rw [Lib.decDigits, dif_neg h, digV_append, ih (u / 10) (by omega), digV_cons, digV_nil, dig_toNat _ (by omega)]; omega
theorem decDigits_ne (u : Nat) : Lib.decDigits u ≠ [] := by
  by_cases h : u < 10
  · rw [Lib.decDigits, dif_pos h]; simp
  · rw [Lib.decDigits, dif_neg h]; simp
theorem digV_noughts (k : Nat) (l : List UInt8) : digV 0 (List.replicate k 48 ++ l) = digV 0 l := by
  induction k with
  | zero => rfl
  | succ k ih => rw [List.replicate_succ, List.cons_append, digV_cons]; exact ih
theorem noughts_all (k u : Nat) : ∀ c ∈ List.replicate k (48 : UInt8) ++ Lib.decDigits u, digB c = true := by
  intro c hc
  rcases List.mem_append.1 hc with hc | hc
  · rw [(List.mem_replicate.1 hc).2]; decide
  · exact decDigits_all u c hc
theorem noughts_ne (k u : Nat) : List.replicate k (48 : UInt8) ++ Lib.decDigits u ≠ [] := by
  intro h; exact decDigits_ne u (List.append_eq_nil_iff.1 h).2

theorem lowB_low (c : UInt8) : lowB (lowB c) = lowB c := by
  have := all_u8 (fun c => decide (lowB (lowB c) = lowB c)) (by decide +kernel) c
  simpa using this
theorem lowB_no (c : UInt8) : ¬ (65 ≤ (lowB c).toNat ∧ (lowB c).toNat ≤ 90) := by
  have := all_u8 (fun c => decide (¬ (65 ≤ (lowB c).toNat ∧ (lowB c).toNat ≤ 90))) (by decide +kernel) c
  exact of_decide_eq_true this
theorem lower_lower (l : List UInt8) : lower (lower l) = lower l := by
  unfold lower; rw [List.map_map]; exact List.map_congr_left fun c _ => lowB_low c
theorem lower_no (l : List UInt8) : ∀ c ∈ lower l, ¬ (65 ≤ c.toNat ∧ c.toNat ≤ 90) := by
  intro c hc
  obtain ⟨d, _, rfl⟩ := List.mem_map.1 hc
  exact lowB_no d

theorem token_one (c : UInt8) : token [c] = signB c := by unfold token; simp
theorem token_mid (l m : List UInt8) (c : UInt8) : token (l ++ [c] ++ m) = (l.all signB && signB c && m.all signB) := by
  unfold token
  rw [List.all_append, List.all_append]; simp
theorem token_of_ne {l : List UInt8} (h : l ≠ []) : token l = l.all signB := by
  unfold token; cases l with
  | nil => exact absurd rfl h
  | cons c l => simp
theorem signB_bd {c : UInt8} (h : signB c = true) : 32 < c.toNat ∧ c.toNat < 127 := by
  have := all_u8 (fun c => !signB c || decide (32 < c.toNat ∧ c.toNat < 127)) (by decide +kernel) c
  rw [h] at this
  simpa using this

/-! Trimming. -/
def headNB (l : List UInt8) : Prop := ∀ c, l.head? = some c → blankB c = false
def lastNB (l : List UInt8) : Prop := ∀ c, l.getLast? = some c → blankB c = false
theorem trimL_head (l : List UInt8) : headNB (trimL l) := by
  induction l with
  | nil => intro c h; cases h
  | cons d l ih =>
    cases hd : blankB d with
    | true => rw [trimL_yes hd]; exact ih
    | false => rw [trimL_no hd]; intro c h; simp at h; rw [← h]; exact hd
theorem trimL_id {l : List UInt8} (h : headNB l) : trimL l = l := by
  cases l with
  | nil => rfl
  | cons d l => exact trimL_no (h d rfl) l
theorem trimE_eq (l : List UInt8) : trimE l = (trimL l.reverse).reverse := rfl
theorem trimE_last (l : List UInt8) : lastNB (trimE l) := by
  intro c h
  rw [trimE_eq, List.getLast?_reverse] at h
  exact trimL_head _ c h
theorem trimE_id {l : List UInt8} (h : lastNB l) : trimE l = l := by
  rw [trimE_eq, trimL_id (fun c hc => h c (by rw [List.head?_reverse] at hc; exact hc)), List.reverse_reverse]
theorem trim_last (l : List UInt8) : lastNB (trim l) := trimE_last _
theorem trim_head (l : List UInt8) : headNB (trim l) := by
  show headNB (trimE (trimL l)); rw [trim_comm]; exact trimL_head _
theorem trim_trim (l : List UInt8) : trim (trim l) = trim l := by
  show trimE (trimL (trim l)) = trim l
  rw [trimL_id (trim_head l), trimE_id (trim_last l)]
theorem trim_ahead {b : List UInt8} (hb : ∀ c ∈ b, blankB c = true) (l : List UInt8) : trim (b ++ l) = trim l := by
  show trimE (trimL (b ++ l)) = _
  rw [trimL, dropWhile_all hb]; rfl
theorem trimE_behind {b : List UInt8} (hb : ∀ c ∈ b, blankB c = true) (l : List UInt8) : trimE (l ++ b) = trimE l := by
  rw [trimE_eq, List.reverse_append, trimL, dropWhile_all (fun c hc => hb c (by simpa using hc))]; rfl
theorem trim_behind {b : List UInt8} (hb : ∀ c ∈ b, blankB c = true) (l : List UInt8) : trim (l ++ b) = trim l := by
  show trimE (trimL (l ++ b)) = trimE (trimL l)
  rw [trim_comm, trim_comm, trimE_behind hb]

/-! Parts. -/
theorem cutAt_append (a : UInt8) (l m : List UInt8) : cutAt a (l ++ a :: m) = cutAt a l ++ cutAt a m := by
  induction l with
  | nil => rw [List.nil_append, cutAt]; simp [cutAt]
  | cons c l ih =>
    rw [List.cons_append, cutAt, cutAt, ih]
    cases hc : (c == a) with
    | true => simp
    | false =>
      cases hp : cutAt a l with
      | nil => exact absurd hp (cutAt_ne a l)
      | cons p ps => simp
theorem parts_append (a : UInt8) (l m : List UInt8) : parts a (l ++ a :: m) = parts a l ++ parts a m := by
  unfold parts; rw [cutAt_append, List.map_append]
theorem cutAt_no (a : UInt8) : ∀ (l p : List UInt8), p ∈ cutAt a l → a ∉ p
  | [], p, h => by simp [cutAt] at h; subst h; simp
  | c :: l, p, h => by
    rw [cutAt] at h
    cases hc : (c == a) with
    | true =>
      rw [hc, if_pos rfl] at h
      rcases List.mem_cons.1 h with rfl | h
      · simp
      · exact cutAt_no a l p h
    | false =>
      rw [hc, if_neg (by decide)] at h
      have hne : c ≠ a := by simpa using hc
      split at h
      · rename_i q qs hq
        rcases List.mem_cons.1 h with rfl | h
        · have := cutAt_no a l q (by rw [hq]; simp)
          simp only [List.mem_cons, not_or]
          exact ⟨fun e => hne e.symm, this⟩
        · exact cutAt_no a l p (by rw [hq]; exact List.mem_cons_of_mem _ h)
      · simp at h; subst h
        simp only [List.mem_cons, List.mem_nil_iff, or_false]
        exact fun e => hne e.symm
theorem trim_sub (l : List UInt8) : ∀ c ∈ trim l, c ∈ l := by
  intro c hc
  have h1 : c ∈ (trimL l) := by
    have h : c ∈ trimE (trimL l) := hc
    unfold trimE at h
    have := (List.dropWhile_sublist (p := blankB) (l := (trimL l).reverse)).mem (by simpa using h)
    simpa using this
  exact (List.dropWhile_sublist _).mem h1
theorem parts_no (a : UInt8) (l p : List UInt8) (h : p ∈ parts a l) : a ∉ p := by
  obtain ⟨q, hq, rfl⟩ := List.mem_map.1 h
  intro ha; exact cutAt_no a l q hq (trim_sub q a ha)
theorem parts_trim (a : UInt8) (l p : List UInt8) (h : p ∈ parts a l) : trim p = p := by
  obtain ⟨q, hq, rfl⟩ := List.mem_map.1 h
  exact trim_trim q
theorem parts_length (a : UInt8) (l : List UInt8) : (parts a l).length = l.count a + 1 := by
  unfold parts; rw [List.length_map, cutAt_length]
theorem texts_of (l : List (List UInt8)) : ∃ L : List ByteArray, l = L.map (·.data.toList) := ⟨l.map fun p => ⟨p.toArray⟩, by simp [List.map_map, Function.comp_def]⟩
theorem cutAt_size (a : UInt8) : ∀ (l p : List UInt8), p ∈ cutAt a l → p.length ≤ l.length
  | [], p, h => by simp [cutAt] at h; subst h; simp
  | c :: l, p, h => by
    rw [cutAt] at h
    split at h
    · rcases List.mem_cons.1 h with rfl | h
      · simp
      · have := cutAt_size a l p h; simp; omega
    · split at h
      · rename_i q qs hq
        rcases List.mem_cons.1 h with rfl | h
        · have := cutAt_size a l q (by rw [hq]; simp); simp; omega
        · have := cutAt_size a l p (by rw [hq]; exact List.mem_cons_of_mem _ h); simp; omega
      · simp at h; subst h; simp
theorem parts_le (a : UInt8) (l p : List UInt8) (h : p ∈ parts a l) : p.length ≤ l.length := by
  obtain ⟨q, hq, rfl⟩ := List.mem_map.1 h
  exact Nat.le_trans (trim_length q) (cutAt_size a l q hq)
theorem count_snoc {l : List UInt8} {k : Nat} (c : UInt8) (h : k < l.length) : (l.take (k + 1)).count c = (l.take k).count c + if l[k] = c then 1 else 0 := by
  rw [List.take_add_one, List.getElem?_eq_getElem h, Option.toList_some, List.count_append, List.count_singleton]
  congr 1
  by_cases hc : l[k] = c <;> simp [hc]
end Go.Proofs.Foot
