/- Plain law of chapter 04: numbers by a base, and addresses of four bytes, over lists of bytes. No program stands here. -/
import Derived.Test.YtiookngmgednjaaDoorSpec01c
import Derived.Test.YtiookngmgednjaaDoorSpec01d
import Derived.Test.YtiookngmgednjaaDoorSpec03b
namespace Go.Proofs.Foot

/-- A digit by a base. -/
def okB (b : Nat) (c : UInt8) : Bool := decide (0 ≤ hexI c) && decide (hexI c < (b : Int))
/-- The number that digits tell by a base. -/
def valB (b acc : Nat) (l : List UInt8) : Nat := l.foldl (fun a c => a * b + (hexI c).toNat) acc
theorem valB_cons (b acc : Nat) (c : UInt8) (r : List UInt8) : valB b acc (c :: r) = valB b (acc * b + (hexI c).toNat) r := List.foldl_cons ..
theorem valB_nil (b acc : Nat) : valB b acc [] = acc := List.foldl_nil ..
theorem valB_append (b acc : Nat) (l m : List UInt8) : valB b acc (l ++ m) = valB b (valB b acc l) m := List.foldl_append ..
theorem valB_snoc {b : Nat} {l : List UInt8} {k : Nat} (h : k < l.length) : valB b 0 (l.take (k + 1)) = valB b 0 (l.take k) * b + (hexI l[k]).toNat := by
  rw [List.take_add_one, List.getElem?_eq_getElem h, Option.toList_some, valB_append, valB_cons, valB_nil]
theorem valB_ge {b : Nat} (hb : 1 ≤ b) (l : List UInt8) : ∀ acc, acc ≤ valB b acc l := by
  induction l with
  | nil => intro acc; rw [valB_nil]; exact Nat.le_refl _
  | cons c l ih =>
    intro acc
    rw [valB_cons]
    have h1 := ih (acc * b + (hexI c).toNat)
    have h2 : acc * 1 ≤ acc * b := Nat.mul_le_mul_left _ hb
    omega
/-- What count answers: the number, 4294967296 at most. -/
def cntB (b : Nat) (l : List UInt8) : Option Nat := if l.all (okB b) = true then some (min 4294967296 (valB b 0 l)) else none
theorem min_step {b g v d : Nat} (hb : 1 ≤ b) : min g (min g v * b + d) = min g (v * b + d) := by
  by_cases h : v ≤ g
  · rw [Nat.min_eq_right h]
  · rw [Nat.min_eq_left (show g ≤ v by omega)]
    have h2 : g * 1 ≤ g * b := Nat.mul_le_mul_left _ hb
    have h3 : g * b ≤ v * b := Nat.mul_le_mul_right _ (by omega)
    omega
theorem hexI_nought : hexI 48 = 0 := by decide
theorem valB_noughts (b : Nat) (l : List UInt8) : valB b 0 (l.dropWhile (· == 48)) = valB b 0 l := by
  induction l with
  | nil => rfl
  | cons c l ih =>
    by_cases h : c = 48
    · subst h
      rw [List.dropWhile_cons_of_pos (by rfl), ih, valB_cons, hexI_nought]
      simp
    · rw [List.dropWhile_cons_of_neg (by simpa using h)]
/-- Does a text begin with 0x? -/
def hexedB (l : List UInt8) : Bool := match l with
  | a :: b :: _ => a == 48 && (b == 120 || b == 88)
  | _ => false
/-- The number of a part. -/
def numP4 (l : List UInt8) : Option Nat := if hexedB l = true then cntB 16 (l.drop 2) else if l = [] then none else if l.head? = some 48 then cntB 8 l else cntB 10 l
theorem numP4_ref (l : List UInt8) : numP4 l = if hexedB l = true then cntB 16 (l.drop 2) else if 2 ≤ l.length ∧ l.head? = some 48 then cntB 8 (l.drop 1) else if l = [] then none else cntB 10 l := by
  unfold numP4
  by_cases h : hexedB l = true
  · rw [if_pos h, if_pos h]
  · rw [if_neg h, if_neg h]
    match l with
    | [] => rfl
    | [c] =>
      by_cases hc : c = 48
      · subst hc; decide
      · simp [hc]
    | c :: d :: r =>
      by_cases hc : c = 48
      · subst hc
        rw [if_neg (by simp), if_pos (by simp), if_pos (by simp)]
        unfold cntB
        rw [List.all_cons, show okB 8 48 = true from by decide, Bool.true_and, valB_cons, hexI_nought]
        rfl
      · rw [if_neg (by simp), if_neg (by simp [hc]), if_neg (by simp [hc]), if_neg (by simp)]
/-- Does a part look like a number? -/
def likeB (l : List UInt8) : Bool := if hexedB l = true then (numP4 l).isSome else decide (l ≠ []) && l.all digB
/-- The parts of a text between its points, without an empty last one. -/
def partsFour (l : List UInt8) : List (List UInt8) := if 1 < (cutAt 46 l).length ∧ (cutAt 46 l).getLast? = some [] then (cutAt 46 l).dropLast else cutAt 46 l
/-- The number of all parts: the last one has the room of the missing ones (r: the bytes that are left, all: the number so far). -/
def addrV : Nat → Nat → List (List UInt8) → Option Nat
  | _, all, [] => some all
  | r, all, [p] => match numP4 p with
    | some n => if n < 256 ^ r then some (all * 256 ^ r + n) else none
    | none => none
  | r, all, p :: q :: ps => match numP4 p with
    | some n => if n < 256 then addrV (r - 1) (all * 256 + n) (q :: ps) else none
    | none => none
/-- Four bytes of a number. -/
def fourBytes (n : Nat) : List UInt8 := [UInt8.ofNat (n / 16777216), UInt8.ofNat (n / 65536), UInt8.ofNat (n / 256), UInt8.ofNat n]
def noughts (n : Nat) : List UInt8 := List.replicate n 0
/-- What Four answers: the bytes, does it look like four bytes, the error. -/
def fourS (l : List UInt8) : List UInt8 × Bool × Nat :=
  if likeB ((partsFour l).getLast?.getD []) = true then
    if 4 < (partsFour l).length then (noughts 16, true, 5)
    else match addrV 4 0 (partsFour l) with
      | some n => (fourBytes n ++ noughts 12, true, 0)
      | none => (noughts 16, true, 5)
  else (noughts 16, false, 0)
end Go.Proofs.Foot
