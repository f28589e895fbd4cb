/- The plain decoding of chapter 03, over lists of bytes. No program stands here. -/
import Derived.Test.YtiookngmgednjaaDoorSpec03
namespace Go.Proofs.Foot

def hexI (c : UInt8) : Int := if 48 ≤ c.toNat ∧ c.toNat ≤ 57 then (c.toNat : Int) - 48 else if 97 ≤ c.toNat ∧ c.toNat ≤ 102 then (c.toNat : Int) - 87 else if 65 ≤ c.toNat ∧ c.toNat ≤ 70 then (c.toNat : Int) - 55 else -1
theorem hexI_bd (c : UInt8) : -1 ≤ hexI c ∧ hexI c ≤ 15 := by
  unfold hexI; split
  · omega
  · split
    · omega
    · split <;> omega
/-- Are two bytes digits in hexadecimal? -/
def pairB (a b : UInt8) : Bool := decide (0 ≤ hexI a) && decide (0 ≤ hexI b)
def pairV (a b : UInt8) : UInt8 := UInt8.ofNat (16 * hexI a + hexI b).toNat
def dec : List UInt8 → List UInt8
  | [] => []
  | [c] => [c]
  | [c, d] => [c, d]
  | c :: a :: b :: r => if (c == 37 && pairB a b) = true then pairV a b :: dec r else c :: dec (a :: b :: r)
theorem dec_ne {c : UInt8} (h : c ≠ 37) (t : List UInt8) : dec (c :: t) = c :: dec t := by
  have e : (c == 37) = false := by simpa using h
  match t with
  | [] => rfl
  | [_] => rfl
  | a :: b :: r => rw [dec, e]; rfl
theorem dec_short (c : UInt8) {t : List UInt8} (h : t.length < 2) : dec (c :: t) = c :: dec t := by
  match t, h with
  | [], _ => rfl
  | [_], _ => rfl
theorem dec_no (c : UInt8) {a b : UInt8} {r : List UInt8} (h : pairB a b = false) : dec (c :: a :: b :: r) = c :: dec (a :: b :: r) := by
  rw [dec, h]; simp
theorem dec_yes {a b : UInt8} {r : List UInt8} (h : pairB a b = true) : dec (37 :: a :: b :: r) = pairV a b :: dec r := by
  rw [dec, h]; rfl
theorem dec_append_ne {h : List UInt8} (hh : (37 : UInt8) ∉ h) (t : List UInt8) : dec (h ++ t) = h ++ dec t := by
  induction h with
  | nil => rfl
  | cons c h ih =>
    have hc : c ≠ 37 := fun e => hh (by simp [e])
    rw [List.cons_append, dec_ne hc, ih (fun e => hh (List.mem_cons_of_mem _ e)), List.cons_append]
theorem dec_ne_all {h : List UInt8} (hh : (37 : UInt8) ∉ h) : dec h = h := by
  have := dec_append_ne hh []
  simpa [dec] using this
theorem dec_length : ∀ l : List UInt8, (dec l).length ≤ l.length
  | [] => by simp [dec]
  | [_] => by simp [dec]
  | [_, _] => by simp [dec]
  | c :: a :: b :: r => by
    have h1 := dec_length r
    have h2 := dec_length (a :: b :: r)
    rw [dec]; split
    · simp; omega
    · simp at h2 ⊢; omega

/-! What is encoded, decoded. -/
theorem all_nib (p : Nat → Bool) (h : (List.range 16).all p = true) {k : Nat} (hk : k < 16) : p k = true := List.all_eq_true.1 h k (List.mem_range.2 hk)
theorem hexI_upHex {k : Nat} (hk : k < 16) : hexI (upHex k) = k := by
  have := all_nib (fun k => decide (hexI (upHex k) = k)) (by decide +kernel) hk
  simpa using this
theorem pair_up (c : UInt8) : pairB (upHex (c.toNat / 16)) (upHex (c.toNat % 16)) = true := by
  have := c.toNat_lt
  unfold pairB
  rw [hexI_upHex (by omega), hexI_upHex (by omega)]; simp; omega
theorem pairV_up (c : UInt8) : pairV (upHex (c.toNat / 16)) (upHex (c.toNat % 16)) = c := by
  have := c.toNat_lt
  unfold pairV
  rw [hexI_upHex (by omega), hexI_upHex (by omega)]
  apply UInt8.toNat.inj
  rw [UInt8.toNat_ofNat']; omega
theorem dec_encode {n : Nat} {l : List UInt8} (h : (37 : UInt8) ∉ l) : dec (encode n l) = l := by
  induction l with
  | nil => rfl
  | cons c l ih =>
    have hc : c ≠ 37 := fun e => h (by simp [e])
    have ih := ih (fun e => h (List.mem_cons_of_mem _ e))
    have e : encode n (c :: l) = encB n c ++ encode n l := rfl
    rw [e]
    cases hb : hasB n c with
    | true => rw [encB_yes hb]; show dec (37 :: _ :: _ :: encode n l) = _; rw [dec_yes (pair_up c), pairV_up, ih]
    | false => rw [encB_no hb]; show dec (c :: encode n l) = _; rw [dec_ne hc, ih]

/-! What is encoded has none of the set's bytes. -/
theorem hasB_cases (n : Nat) (c : UInt8) : hasB n c = hasB (if n < 6 then n else 0) c := by
  split
  · rfl
  · unfold hasB; rw [if_pos (by omega), if_pos (by omega)]
/-- A fact of every set and every byte, by looking at each. -/
theorem all_set (p : (UInt8 → Bool) → UInt8 → Bool) (h : (List.range 6).all (fun n => (List.range 256).all (fun c => p (hasB n) (UInt8.ofNat c))) = true) (n : Nat) (c : UInt8) : p (hasB n) c = true := by
  have e : hasB n = hasB (if n < 6 then n else 0) := funext (hasB_cases n)
  rw [e]
  have hn : (if n < 6 then n else 0) < 6 := by split <;> omega
  exact all_u8' _ (List.all_eq_true.1 h _ (List.mem_range.2 hn)) c
theorem hasB_37 (n : Nat) : hasB n 37 = false := by
  have := all_set (fun p _ => !p 37) (by decide +kernel) n 0
  simpa using this
theorem hasB_up (n : Nat) {k : Nat} (hk : k < 16) : hasB n (upHex k) = false := by
  have h := all_set (fun p _ => (List.range 16).all fun k => !p (upHex k)) (by decide +kernel) n 0
  have := all_nib _ h hk
  simpa using this
theorem encode_none {n : Nat} {l : List UInt8} (h : ∀ c ∈ l, hasB n c = false) : encode n l = l := by
  induction l with
  | nil => rfl
  | cons c l ih =>
    have e : encode n (c :: l) = encB n c ++ encode n l := rfl
    rw [e, encB_no (h c (by simp)), ih (fun d hd => h d (List.mem_cons_of_mem _ hd))]; rfl
theorem encode_clean (n : Nat) (l : List UInt8) : ∀ c ∈ encode n l, hasB n c = false := by
  intro d hd
  obtain ⟨c, _, hc⟩ := List.mem_flatMap.1 hd
  have hlt := c.toNat_lt
  cases hb : hasB n c with
  | true =>
    rw [encB_yes hb] at hc
    simp only [List.mem_cons, List.mem_nil_iff, or_false] at hc
    rcases hc with rfl | rfl | rfl
    · exact hasB_37 n
    · exact hasB_up n (by omega)
    · exact hasB_up n (by omega)
  | false =>
    rw [encB_no hb] at hc
    simp only [List.mem_cons, List.mem_nil_iff, or_false] at hc
    subst hc; exact hb
/-- How many bytes of a set a text has. -/
def hasN (n : Nat) (l : List UInt8) : Nat := (l.filter (hasB n)).length
theorem hasN_le (n : Nat) (l : List UInt8) : hasN n l ≤ l.length := List.length_filter_le _ _
theorem hasN_snoc (n : Nat) {l : List UInt8} {k : Nat} (h : k < l.length) : hasN n (l.take (k + 1)) = hasN n (l.take k) + (if hasB n l[k] = true then 1 else 0) := by
  unfold hasN
  rw [List.take_add_one, List.getElem?_eq_getElem h, Option.toList_some, List.filter_append, List.length_append]
  cases hb : hasB n l[k] <;> simp [hb]
theorem encode_len (n : Nat) (l : List UInt8) : (encode n l).length = l.length + 2 * hasN n l := by
  induction l with
  | nil => rfl
  | cons c l ih =>
    have e : encode n (c :: l) = encB n c ++ encode n l := rfl
    have e2 : hasN n (c :: l) = (if hasB n c = true then 1 else 0) + hasN n l := by
      unfold hasN
      cases hb : hasB n c <;> simp [hb]; omega
    rw [e, List.length_append, ih, e2]
    cases hb : hasB n c with
    | true => rw [encB_yes hb]; simp; omega
    | false => rw [encB_no hb]; simp; omega

/-! Two texts, one behind the other. -/
/-- Does a text end within three signs? -/
def openB (l : List UInt8) : Bool := (decide (0 < l.length) && (l.getD (l.length - 1) 0 == 37)) || (decide (1 < l.length) && (l.getD (l.length - 2) 0 == 37))
theorem dec_join : ∀ (s t : List UInt8), openB s = false → dec (s ++ t) = dec s ++ dec t
  | [], t, _ => rfl
  | [c], t, h => by
    have hc : c ≠ 37 := by intro e; subst e; simp [openB] at h
    show dec (c :: t) = _; rw [dec_ne hc]; rfl
  | [c, d], t, h => by
    have hc : c ≠ 37 ∧ d ≠ 37 := by
      constructor <;> (intro e; subst e; simp [openB] at h)
    show dec (c :: d :: t) = _; rw [dec_ne hc.1, dec_ne hc.2]; rfl
  | c :: a :: b :: r, t, h => by
    have o1 : openB (a :: b :: r) = false := by
      have e1 : (c :: a :: b :: r).length - 1 = ((a :: b :: r).length - 1) + 1 := by simp
      have e2 : (c :: a :: b :: r).length - 2 = ((a :: b :: r).length - 2) + 1 := by simp
      have g1 : (c :: a :: b :: r).getD ((c :: a :: b :: r).length - 1) 0 = (a :: b :: r).getD ((a :: b :: r).length - 1) 0 := by rw [e1]; rfl
      have g2 : (c :: a :: b :: r).getD ((c :: a :: b :: r).length - 2) 0 = (a :: b :: r).getD ((a :: b :: r).length - 2) 0 := by rw [e2]; rfl
      unfold openB at h ⊢
      rw [g1, g2] at h
      simpa using h
    have h2 := dec_join (a :: b :: r) t o1
    cases hp : (c == 37 && pairB a b) with
    | true =>
      have o2 : openB r = false := by
        match r, h with
        | [], _ => rfl
        | [x], h =>
          have : x ≠ 37 := by intro e; subst e; simp [openB] at h
          simp [openB, this]
        | x :: y :: r', h =>
          have e1 : (c :: a :: b :: x :: y :: r').length - 1 = ((x :: y :: r').length - 1) + 3 := by simp
          have e2 : (c :: a :: b :: x :: y :: r').length - 2 = ((x :: y :: r').length - 2) + 3 := by simp
          have g1 : (c :: a :: b :: x :: y :: r').getD ((c :: a :: b :: x :: y :: r').length - 1) 0 = (x :: y :: r').getD ((x :: y :: r').length - 1) 0 := by rw [e1]; rfl
          have g2 : (c :: a :: b :: x :: y :: r').getD ((c :: a :: b :: x :: y :: r').length - 2) 0 = (x :: y :: r').getD ((x :: y :: r').length - 2) 0 := by rw [e2]; rfl
          unfold openB at h ⊢
          rw [g1, g2] at h
          simpa using h
      have h3 := dec_join r t o2
      show dec (c :: a :: b :: (r ++ t)) = _
      rw [dec, dec, if_pos hp, if_pos hp, h3]; rfl
    | false =>
      show dec (c :: a :: b :: (r ++ t)) = _
      rw [dec, dec, if_neg (by rw [hp]; decide), if_neg (by rw [hp]; decide)]
      show c :: dec ((a :: b :: r) ++ t) = _
      rw [h2]; rfl

/-! Three signs, in small letters or great ones. -/
def loHex (k : Nat) : UInt8 := ([48, 49, 50, 51, 52, 53, 54, 55, 56, 57, 97, 98, 99, 100, 101, 102] : List UInt8).getD k 0
theorem hexI_loHex {k : Nat} (hk : k < 16) : hexI (loHex k) = k := by
  have := all_nib (fun k => decide (hexI (loHex k) = k)) (by decide +kernel) hk
  simpa using this
theorem dec_signs {c a b : UInt8} (ha : hexI a = c.toNat / 16) (hb : hexI b = c.toNat % 16) (t : List UInt8) : dec (37 :: a :: b :: t) = c :: dec t := by
  have := c.toNat_lt
  have hp : pairB a b = true := by unfold pairB; rw [ha, hb]; simp; omega
  rw [dec_yes hp]
  congr 1
  unfold pairV
  rw [ha, hb]
  apply UInt8.toNat.inj
  rw [UInt8.toNat_ofNat']; omega
end Go.Proofs.Foot
