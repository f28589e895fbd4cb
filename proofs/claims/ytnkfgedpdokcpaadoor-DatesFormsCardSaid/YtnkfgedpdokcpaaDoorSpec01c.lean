/- The plain numbers of chapter 01, over lists of bytes. No program stands here. -/
import Derived.Test.YtnkfgedpdokcpaaDoorSpec01b
import Derived.Lib.AtoiAllCases
namespace Go.Proofs.Foot

def digV (acc : Nat) (l : List UInt8) : Nat := l.foldl (fun a c => a * 10 + (c.toNat - 48)) acc
theorem digV_cons (acc : Nat) (c : UInt8) (r : List UInt8) : digV acc (c :: r) = digV (acc * 10 + (c.toNat - 48)) r := List.foldl_cons ..
theorem digV_nil (acc : Nat) : digV acc [] = acc := List.foldl_nil ..
theorem digV_append (acc : Nat) (l m : List UInt8) : digV acc (l ++ m) = digV (digV acc l) m := List.foldl_append ..
theorem digV_snoc {l : List UInt8} {k : Nat} (h : k < l.length) : digV 0 (l.take (k + 1)) = digV 0 (l.take k) * 10 + (l[k].toNat - 48) := by
  rw [List.take_add_one, List.getElem?_eq_getElem h, Option.toList_some, digV_append, digV_cons, digV_nil]
theorem pow_step (k : Nat) : (10 : Nat) ^ (k + 1) = 10 ^ k * 10 := Nat.pow_succ _ _
theorem digV_lt (l : List UInt8) (hd : ∀ c ∈ l, digB c = true) : ∀ (acc p : Nat), acc < p → digV acc l < p * 10 ^ l.length := by
  induction l with
  | nil => intro acc p h; rw [digV_nil, List.length_nil, Nat.pow_zero, Nat.mul_one]; exact h
  | cons c l ih =>
    intro acc p h
    have hc := (digB_iff _).1 (hd c (by simp))
    have h1 := ih (fun d hm => hd d (List.mem_cons_of_mem _ hm)) (acc * 10 + (c.toNat - 48)) (p * 10) (by omega)
    rw [digV_cons, List.length_cons, pow_step, Nat.mul_comm (10 ^ l.length) 10, ← Nat.mul_assoc]; exact h1
theorem digV_bd {l : List UInt8} (hd : ∀ c ∈ l, digB c = true) (h : l.length ≤ 18) : digV 0 l < 1000000000000000000 := by
  have h1 := digV_lt l hd 0 1 (by decide)
  have h2 : (10 : Nat) ^ l.length ≤ 10 ^ 18 := Nat.pow_le_pow_right (by decide) h
  have e : (10 : Nat) ^ 18 = 1000000000000000000 := rfl
  rw [e] at h2
  omega
theorem pu10 (l : List UInt8) (hd : ∀ c ∈ l, digB c = true) : ∀ (acc p : Nat), acc < p → p * 10 ^ l.length ≤ 1000000000000000000 → Lib.parseUint10 acc l = .ok (digV acc l) := by
  induction l with
  | nil => intro acc p _ _; rw [digV_nil, Lib.parseUint10]
  | cons c l ih =>
    intro acc p h hk
    have hc := (digB_iff _).1 (hd c (by simp))
    rw [List.length_cons, pow_step, Nat.mul_comm (10 ^ l.length) 10, ← Nat.mul_assoc] at hk
    have h10 : p * 10 ≤ 1000000000000000000 := Nat.le_trans (Nat.le_mul_of_pos_right _ (Nat.pow_pos (by decide))) hk
    rw [Lib.parseUint10, if_pos hc, if_neg (by omega), if_neg (by omega), digV_cons]
    exact ih (fun d hm => hd d (List.mem_cons_of_mem _ hm)) _ (p * 10) (by omega) hk
theorem atoi_digs {l : List UInt8} (hne : l ≠ []) (hd : ∀ c ∈ l, digB c = true) (h : l.length ≤ 18) : Lib.atoiAll l = .ok (digV 0 l) := by
  match l, hne with
  | c :: r, _ =>
    have hc := (digB_iff _).1 (hd c (by simp))
    have h2 : (10 : Nat) ^ (c :: r).length ≤ 10 ^ 18 := Nat.pow_le_pow_right (by decide) h
    have e : (10 : Nat) ^ 18 = 1000000000000000000 := rfl
    rw [e] at h2
    have hp := pu10 (c :: r) hd 0 1 (by decide) (by omega)
    have hb := digV_bd hd h
    have hm : Lib.parseMag (c :: r) = .ok (digV 0 (c :: r)) := by unfold Lib.parseMag; rw [if_neg (by simp)]; exact hp
    unfold Lib.atoiAll
    simp only [show ¬ (c.toNat = 43 ∨ c.toNat = 45) from by omega, if_false, hm]
    rw [if_neg (by omega), if_neg (by omega), if_neg (by omega)]
def digitsL : List UInt8 := [48, 49, 50, 51, 52, 53, 54, 55, 56, 57]
theorem digitsL_eq (c : UInt8) : digitsL.contains c = digB c := by
  have := all_u8 (fun c => digitsL.contains c == digB c) (by decide +kernel) c
  simpa using this
theorem mem_dropWhile {p : UInt8 → Bool} {c : UInt8} (hp : p c = false) : ∀ {l : List UInt8}, c ∈ l → c ∈ l.dropWhile p
  | d :: l, h => by
    cases hd : p d with
    | true =>
      rw [List.dropWhile_cons_of_pos hd]
      rcases List.mem_cons.1 h with rfl | h
      · rw [hp] at hd; cases hd
      · exact mem_dropWhile hp h
    | false => rw [List.dropWhile_cons_of_neg (by rw [hd]; decide)]; exact h
theorem trimD_all {l : List UInt8} (hd : ∀ c ∈ l, digB c = true) : Lib.trimS l digitsL = [] := by
  unfold Lib.trimS Lib.trimLeftS Lib.trimRightS
  rw [dropWhile_none (l := l.reverse) (fun c hc => by rw [digitsL_eq]; exact hd c (by simpa using hc))]; rfl
theorem trimD_some {l : List UInt8} (hd : ∃ c ∈ l, digB c = false) : Lib.trimS l digitsL ≠ [] := by
  obtain ⟨c, hc, hp⟩ := hd
  unfold Lib.trimS Lib.trimLeftS Lib.trimRightS
  have hp' : digitsL.contains c = false := by rw [digitsL_eq]; exact hp
  have h1 : c ∈ l.reverse.dropWhile (digitsL.contains ·) := mem_dropWhile hp' (by simpa using hc)
  have h2 : c ∈ ((l.reverse.dropWhile (digitsL.contains ·)).reverse).dropWhile (digitsL.contains ·) := mem_dropWhile hp' (by simpa using h1)
  exact List.ne_nil_of_mem h2

/-- Does a text tell a number of at most so much? -/
def numB (l : List UInt8) (most : Int) : Bool := decide (l ≠ []) && decide (l.length ≤ 18) && l.all digB && decide ((digV 0 l : Int) ≤ most)
end Go.Proofs.Foot
