/- Plain law of AddrsShort: how long the text of sixteen bytes is, its signs, its runs of colons, its noughts. -/
import Derived.Test.YtiookngmgednjaaDoorSpec04d
namespace Go.Proofs.YtiookngmgednjaaDoor
open Go.Lib Go.Proofs.Foot

theorem join_le {m : Nat} {ps : List (List UInt8)} (h : ∀ p ∈ ps, p.length ≤ m) (a : UInt8) : (Lib.join ps [a]).length ≤ (m + 1) * ps.length ∧ (ps ≠ [] → (Lib.join ps [a]).length + 1 ≤ (m + 1) * ps.length) := by
  induction ps with
  | nil => exact ⟨by rw [Lib.join_nil]; exact Nat.zero_le _, fun e => absurd rfl e⟩
  | cons p ps ih =>
    have hp := h p List.mem_cons_self
    have hi := ih (fun q hq => h q (List.mem_cons_of_mem _ hq))
    cases ps with
    | nil =>
      rw [Lib.join_one, List.length_cons, List.length_nil]
      exact ⟨by omega, fun _ => by omega⟩
    | cons q ps =>
      have h2 := hi.2 (by simp)
      rw [join_more, List.length_append, List.length_cons, List.length_cons (a := p), Nat.mul_add]
      exact ⟨by omega, fun _ => by omega⟩
theorem join_ge {ps : List (List UInt8)} (h : ∀ p ∈ ps, 1 ≤ p.length) (a : UInt8) : ps.length ≤ (Lib.join ps [a]).length := by
  induction ps with
  | nil => exact Nat.zero_le _
  | cons p ps ih =>
    have hp := h p List.mem_cons_self
    have hi := ih (fun q hq => h q (List.mem_cons_of_mem _ hq))
    cases ps with
    | nil => rw [Lib.join_one]; exact hp
    | cons q ps => rw [join_more, List.length_append]; simp only [List.length_cons] at hi ⊢; omega
theorem hexL_lens {B p : List UInt8} (hp : p ∈ hexL B) : 1 ≤ p.length ∧ p.length ≤ 4 := by
  rw [hexL_is] at hp
  obtain ⟨k, _, rfl⟩ := List.mem_map.1 hp
  exact baseD_len16 (pc_lt B k)
theorem hexL_8 (B : List UInt8) : (hexL B).length = 8 := by rw [hexL_is]; simp
/-- The two forms of the text. -/
theorem sixL_ways (B : List UInt8) : sixL B = Lib.join (hexL B) [58] ∨ ∃ f n, 2 ≤ n ∧ f + n ≤ 8 ∧ sixL B = Lib.join ((hexL B).take f) [58] ++ 58 :: 58 :: Lib.join ((hexL B).drop (f + n)) [58] := by
  by_cases hr : (runs (zs B) 8).2.2 < 2
  · exact .inl (sixL_all B hr)
  · obtain ⟨f, n, hfn⟩ : ∃ f n, (runs (zs B) 8).2 = (f, n) := ⟨_, _, rfl⟩
    have hn : 2 ≤ n := by rw [hfn] at hr; simpa using hr
    obtain ⟨h8, hs⟩ := sixL_run B hfn hn
    exact .inr ⟨f, n, hn, h8, by rw [hs]; simp⟩
theorem sixL_len (B : List UInt8) : 2 ≤ (sixL B).length ∧ (sixL B).length ≤ 39 := by
  have h8 := hexL_8 B
  rcases sixL_ways B with h | ⟨f, n, hn, hf, h⟩
  · rw [h]
    have h1 := join_ge (ps := hexL B) (fun p hp => (hexL_lens hp).1) 58
    have h2 := (join_le (m := 4) (ps := hexL B) (fun p hp => (hexL_lens hp).2) 58).2 (by intro e; rw [e] at h8; simp at h8)
    rw [h8] at h1 h2
    omega
  · rw [h, List.length_append, List.length_cons, List.length_cons]
    have h1 := (join_le (m := 4) (ps := (hexL B).take f) (fun p hp => (hexL_lens (List.mem_of_mem_take hp)).2) 58).1
    have h2 := (join_le (m := 4) (ps := (hexL B).drop (f + n)) (fun p hp => (hexL_lens (List.mem_of_mem_drop hp)).2) 58).1
    rw [List.length_take, h8] at h1
    rw [List.length_drop, h8] at h2
    have h3 : min f 8 = f := by omega
    rw [h3] at h1
    omega
theorem twos_at {l : List UInt8} (h : twos l = 0) (hl : l.getLast? ≠ some 58) (r : List UInt8) (hr : r.head? ≠ some 58) : twos (l ++ 58 :: 58 :: r) = 1 + twos r := by
  induction l with
  | nil => rw [List.nil_append, twos_cons, twos_cons, if_pos ⟨rfl, rfl⟩, if_neg (fun e => hr e.2), Nat.zero_add]
  | cons a t ih =>
    rw [twos_cons] at h
    have h1 : ¬ (a = 58 ∧ t.head? = some 58) := fun e => by rw [if_pos e] at h; omega
    have h2 : twos t = 0 := by omega
    have h3 : ¬ (a = 58 ∧ (t ++ 58 :: 58 :: r).head? = some 58) := by
      rintro ⟨rfl, e⟩
      cases t with
      | nil => exact hl rfl
      | cons b t => exact h1 ⟨rfl, e⟩
    have h4 : t.getLast? ≠ some 58 := by
      intro e
      cases t with
      | nil => cases e
      | cons b t => rw [List.getLast?_cons_cons] at hl; exact hl e
    rw [List.cons_append, twos_cons, if_neg h3, ih h2 h4, Nat.zero_add]
theorem join_head58 {ps : List (List UInt8)} (h : Good4 ps) : (Lib.join ps [58]).head? ≠ some 58 := by
  cases ps with
  | nil => intro e; cases e
  | cons p ps =>
    have hp := h p List.mem_cons_self
    rw [join_head ps 58 hp.1]
    exact fun e => hp.2 (List.mem_of_mem_head? e)
theorem sixL_twos (B : List UInt8) : twos (sixL B) ≤ 1 := by
  rcases sixL_ways B with h | ⟨f, n, _, _, h⟩
  · rw [h, twos_join (hexL_good B)]; omega
  · rw [h, twos_at (twos_join ((hexL_good B).take f)) (join_last ((hexL_good B).take f)) _ (join_head58 ((hexL_good B).drop _)), twos_join ((hexL_good B).drop _)]
    exact Nat.le_refl _
theorem twos_snoc (l : List UInt8) (c : UInt8) : twos (l ++ [c]) = twos l + if l.getLast? = some 58 ∧ c = 58 then 1 else 0 := by
  induction l with
  | nil => simp [twos]
  | cons a t ih =>
    rw [List.cons_append, twos_cons, twos_cons, ih]
    cases t with
    | nil => simp [twos]
    | cons b t => rw [List.getLast?_cons_cons, List.cons_append, List.head?_cons, List.head?_cons]; omega
theorem twos_take {l : List UInt8} {k : Nat} (hk : k < l.length) : twos (l.take (k + 1)) = twos (l.take k) + if (0 < k ∧ l[k - 1]'(by omega) = 58) ∧ l[k] = 58 then 1 else 0 := by
  rw [List.take_succ_eq_append_getElem hk, twos_snoc]
  congr 1
  cases k with
  | zero => simp
  | succ k =>
    have e : (l.take (k + 1)).getLast? = some l[k] := by rw [List.getLast?_take]; simp [List.getElem?_eq_getElem (show k < l.length by omega)]
    rw [e]
    simp
theorem twos_take_le (l : List UInt8) (k : Nat) : twos (l.take k) ≤ k := by
  induction k with
  | zero => simp [twos]
  | succ k ih =>
    by_cases hk : k < l.length
    · rw [twos_take hk]; split <;> omega
    · rw [List.take_of_length_le (by omega)] at ih ⊢; omega
-- the signs
def okSign (c : UInt8) : Prop := c = 58 ∨ (48 ≤ c.toNat ∧ c.toNat ≤ 57) ∨ (97 ≤ c.toNat ∧ c.toNat ≤ 102)
theorem hx_sign : ∀ d < 16, (48 ≤ (hx d).toNat ∧ (hx d).toNat ≤ 57) ∨ (97 ≤ (hx d).toNat ∧ (hx d).toNat ≤ 102) := by decide +kernel
theorem mem_join {ps : List (List UInt8)} {c : UInt8} (h : c ∈ Lib.join ps [58]) : c = 58 ∨ ∃ p ∈ ps, c ∈ p := by
  induction ps with
  | nil => cases h
  | cons p ps ih =>
    cases ps with
    | nil => rw [Lib.join_one] at h; exact .inr ⟨p, List.mem_cons_self, h⟩
    | cons q ps =>
      rw [join_more] at h
      rcases List.mem_append.1 h with h | h
      · exact .inr ⟨p, List.mem_cons_self, h⟩
      · rcases List.mem_cons.1 h with h | h
        · exact .inl h
        · rcases ih h with h | ⟨x, hx, hc⟩
          · exact .inl h
          · exact .inr ⟨x, List.mem_cons_of_mem _ hx, hc⟩
theorem hexL_sign {B p : List UInt8} (hp : p ∈ hexL B) {c : UInt8} (hc : c ∈ p) : okSign c := by
  rw [hexL_is] at hp
  obtain ⟨k, _, rfl⟩ := List.mem_map.1 hp
  obtain ⟨d, hd, rfl⟩ := baseD_all (by omega) (by omega) _ c hc
  exact .inr (hx_sign d hd)
theorem join_sign {B : List UInt8} {ps : List (List UInt8)} (h : ∀ p ∈ ps, p ∈ hexL B) {c : UInt8} (hc : c ∈ Lib.join ps [58]) : okSign c := by
  rcases mem_join hc with h1 | ⟨p, hp, h1⟩
  · exact .inl h1
  · exact hexL_sign (h p hp) h1
theorem sixL_sign {B : List UInt8} {c : UInt8} (hc : c ∈ sixL B) : okSign c := by
  rcases sixL_ways B with h | ⟨f, n, _, _, h⟩
  · rw [h] at hc; exact join_sign (fun p hp => hp) hc
  · rw [h] at hc
    rcases List.mem_append.1 hc with hc | hc
    · exact join_sign (fun p hp => List.mem_of_mem_take hp) hc
    · rcases List.mem_cons.1 hc with hc | hc
      · exact .inl hc
      · rcases List.mem_cons.1 hc with hc | hc
        · exact .inl hc
        · exact join_sign (fun p hp => List.mem_of_mem_drop hp) hc
-- no noughts ahead
/-- No nought stands at a piece's beginning with a digit behind it (b: does a piece begin here?). -/
def canonB : Bool → List UInt8 → Bool
  | _, [] => true
  | b, c :: r => (!(c == 48 && b) || r.head?.getD 58 == 58) && canonB (c == 58) r
theorem canonB_cons (b : Bool) (c : UInt8) (r : List UInt8) : canonB b (c :: r) = ((!(c == 48 && b) || r.head?.getD 58 == 58) && canonB (c == 58) r) := rfl
theorem canon_false {p : List UInt8} (h : (58 : UInt8) ∉ p) (t : List UInt8) : canonB false (p ++ t) = canonB false t := by
  induction p with
  | nil => rfl
  | cons c p ih =>
    have hc : (c == 58) = false := by rw [beq_eq_false_iff_ne]; intro e; exact h (by rw [e]; exact List.mem_cons_self)
    rw [List.cons_append, canonB_cons, hc, ih (fun hm => h (List.mem_cons_of_mem _ hm))]
    simp
theorem canon_head {c : UInt8} {p : List UInt8} (hc : c ≠ 48) (h : (58 : UInt8) ∉ c :: p) (b : Bool) (t : List UInt8) : canonB b (c :: p ++ t) = canonB false t := by
  have h58 : (c == 58) = false := by rw [beq_eq_false_iff_ne]; intro e; exact h (by rw [e]; exact List.mem_cons_self)
  have h48 : (c == 48) = false := by rw [beq_eq_false_iff_ne]; exact hc
  rw [List.cons_append, canonB_cons, h58, h48, canon_false (fun hm => h (List.mem_cons_of_mem _ hm))]
  simp
theorem baseD_head {n : Nat} (h : 0 < n) : ∃ c p, baseD 16 n = c :: p ∧ c ≠ 48 := by
  induction n using Nat.strongRecOn with
  | _ n ih =>
    by_cases h16 : n < 16
    · refine ⟨hx n, [], by rw [baseD, dif_pos (.inl h16)], fun e => ?_⟩
      have := (hx_facts n h16).2.2.2 e
      omega
    · obtain ⟨c, p, hp, hc⟩ := ih (n / 16) (by omega) (by omega)
      exact ⟨c, p ++ [hx (n % 16)], by rw [baseD, dif_neg (by omega), hp]; rfl, hc⟩
theorem canon_piece (n : Nat) (b : Bool) {t : List UInt8} (ht : t.head?.getD 58 = 58) : canonB b (baseD 16 n ++ t) = canonB false t := by
  by_cases h0 : n = 0
  · subst h0
    rw [show baseD 16 0 = [48] from by rw [baseD, dif_pos (.inl (by omega))]; rfl]
    show canonB b (48 :: t) = _
    rw [canonB_cons, ht]
    simp
  · obtain ⟨c, p, hp, hc⟩ := baseD_head (n := n) (by omega)
    have hf := (baseD_free (b := 16) (by omega) (by omega) n).1
    rw [hp] at hf ⊢
    exact canon_head hc hf b t
theorem canon_join {B : List UInt8} {ps : List (List UInt8)} (h : ∀ p ∈ ps, p ∈ hexL B) (b : Bool) (t : List UInt8) (ht : t.head?.getD 58 = 58) (hc : ∀ b, canonB b t = true) : canonB b (Lib.join ps [58] ++ t) = true := by
  induction ps generalizing b with
  | nil => exact hc b
  | cons p ps ih =>
    have hp := h p List.mem_cons_self
    rw [hexL_is] at hp
    obtain ⟨k, _, rfl⟩ := List.mem_map.1 hp
    cases ps with
    | nil => rw [Lib.join_one, canon_piece _ _ ht]; exact hc false
    | cons q ps =>
      rw [join_more, List.append_assoc, canon_piece _ _ (by rfl), List.cons_append, canonB_cons]
      rw [ih (fun x hx => h x (List.mem_cons_of_mem _ hx))]
      simp
theorem sixL_canon (B : List UInt8) : canonB true (sixL B) = true := by
  rcases sixL_ways B with h | ⟨f, n, _, _, h⟩
  · have := canon_join (B := B) (ps := hexL B) (fun p hp => hp) true [] rfl (fun b => rfl)
    rw [List.append_nil] at this
    rw [h]; exact this
  · rw [h]
    refine canon_join (B := B) (fun p hp => List.mem_of_mem_take hp) true _ rfl (fun b => ?_)
    have hj : ∀ b, canonB b (Lib.join ((hexL B).drop (f + n)) [58]) = true := fun b => by
      have := canon_join (B := B) (ps := (hexL B).drop (f + n)) (fun p hp => List.mem_of_mem_drop hp) b [] rfl (fun b => rfl)
      rw [List.append_nil] at this
      exact this
    rw [canonB_cons, canonB_cons, hj]
    simp
theorem canon_at : ∀ {l : List UInt8} {b : Bool}, canonB b l = true → ∀ (i : Nat) (h1 : i + 1 < l.length), l[i]'(by omega) = 48 → ((i = 0 ∧ b = true) ∨ (0 < i ∧ l[i - 1]'(by omega) = 58)) → l[i + 1] = 58
  | [], _, _, i, h1, _, _ => by simp at h1
  | c :: r, b, h, 0, h1, h48, hp => by
    rw [canonB_cons] at h
    have hb : b = true := by
      rcases hp with h | ⟨h, _⟩
      · exact h.2
      · omega
    have hc : c = 48 := h48
    rw [hb, hc] at h
    cases r with
    | nil => simp at h1
    | cons d r =>
      simp at h
      exact h.1
  | c :: r, b, h, i + 1, h1, h48, hp => by
    rw [canonB_cons, Bool.and_eq_true] at h
    refine canon_at h.2 i (by simpa using h1) h48 ?_
    have hp2 : (c :: r)[i]'(by simp at h1 ⊢; omega) = 58 := by
      rcases hp with h | ⟨_, h⟩
      · omega
      · exact h
    cases i with
    | zero => exact .inl ⟨rfl, by simpa using hp2⟩
    | succ i => exact .inr ⟨by omega, by simpa using hp2⟩
theorem dot4_len (a b c d : UInt8) : (dot4 a b c d).length ≤ 15 := by
  have h : ∀ x : UInt8, (baseD 10 x.toNat).length ≤ 3 := fun x => by
    have hx := x.toNat_lt
    by_cases h1 : x.toNat < 10
    · rw [baseD1 h1]; simp
    · by_cases h2 : x.toNat < 100
      · rw [baseD2 (by omega) h2]; simp
      · rw [baseD3 (by omega) (by omega)]; simp
  unfold dot4
  rw [join_more, join_more, join_more, Lib.join_one]
  simp only [List.length_append, List.length_cons]
  have := h a; have := h b; have := h c; have := h d
  omega
end Go.Proofs.YtiookngmgednjaaDoor
