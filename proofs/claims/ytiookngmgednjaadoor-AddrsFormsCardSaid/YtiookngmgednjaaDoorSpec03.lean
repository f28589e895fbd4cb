/- The plain functions of chapter 03 (percent signs), over lists of bytes. No program stands here. -/
namespace Go.Proofs.Foot

def fragL : List UInt8 := [32, 34, 60, 62, 96]
def queryL : List UInt8 := [32, 34, 35, 60, 62, 39]
def pathL : List UInt8 := [32, 34, 35, 60, 62, 63, 94, 123, 125, 96]
def userL : List UInt8 := [47, 58, 59, 61, 64, 91, 92, 93, 124]
/-- The bytes that a set has besides those that no text shows. -/
def setL (n : Nat) : List UInt8 := if n = 2 then fragL else if n = 3 then queryL else if n = 4 then pathL else if n = 5 then userL ++ pathL else []
def amongB (l : List UInt8) (c : UInt8) : Bool := l.contains c
def ctl (c : UInt8) : Bool := decide (c.toNat < 32) || decide (126 < c.toNat)
def hasB (n : Nat) (c : UInt8) : Bool := if n = 0 ∨ 5 < n then false else ctl c || (setL n).contains c

theorem all_u8' (p : UInt8 → Bool) (h : (List.range 256).all (fun n => p (UInt8.ofNat n)) = true) (c : UInt8) : p c = true := by
  have h1 := List.all_eq_true.1 h c.toNat (List.mem_range.2 c.toNat_lt)
  simpa using h1
theorem user_among (c : UInt8) : ([32, 34, 35, 60, 62, 63, 94, 123, 125, 96, 47, 58, 59, 61, 64, 91, 92, 93, 124] : List UInt8).contains c = (setL 5).contains c := by
  have := all_u8' (fun c => ([32, 34, 35, 60, 62, 63, 94, 123, 125, 96, 47, 58, 59, 61, 64, 91, 92, 93, 124] : List UInt8).contains c == (setL 5).contains c) (by decide +kernel) c
  simpa using this

def upDigits : List UInt8 := [48, 49, 50, 51, 52, 53, 54, 55, 56, 57, 65, 66, 67, 68, 69, 70]
def upHex (k : Nat) : UInt8 := upDigits.getD k 0
/-- A byte as it stands in an encoded text. -/
def encB (n : Nat) (c : UInt8) : List UInt8 := if hasB n c = true then [37, upHex (c.toNat / 16), upHex (c.toNat % 16)] else [c]
def encode (n : Nat) (l : List UInt8) : List UInt8 := l.flatMap (encB n)
theorem encode_nil (n : Nat) : encode n [] = [] := rfl
theorem encode_append (n : Nat) (l m : List UInt8) : encode n (l ++ m) = encode n l ++ encode n m := by simp [encode]
theorem encode_snoc (n : Nat) {l : List UInt8} {k : Nat} (h : k < l.length) : encode n (l.take (k + 1)) = encode n (l.take k) ++ encB n l[k] := by
  rw [List.take_add_one, List.getElem?_eq_getElem h, Option.toList_some, encode_append]; simp [encode]
theorem encB_yes {n : Nat} {c : UInt8} (h : hasB n c = true) : encB n c = [37, upHex (c.toNat / 16), upHex (c.toNat % 16)] := if_pos h
theorem encB_no {n : Nat} {c : UInt8} (h : hasB n c = false) : encB n c = [c] := if_neg (by rw [h]; decide)
theorem encB_length (n : Nat) (c : UInt8) : (encB n c).length ≤ 3 := by
  unfold encB; split <;> simp
theorem encode_length (n : Nat) (l : List UInt8) : (encode n l).length ≤ 3 * l.length := by
  induction l with
  | nil => simp [encode]
  | cons a l ih =>
    have h1 := encB_length n a
    have e : encode n (a :: l) = encB n a ++ encode n l := rfl
    rw [e, List.length_append, List.length_cons]; omega
end Go.Proofs.Foot
