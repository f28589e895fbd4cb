/- The plain functions of chapter 03 (percent signs), over lists of bytes. No program stands here. -/
namespace Go.Proofs.Foot

def fragL : List UInt8 := [32, 34, 60, 62, 96]
def queryL : List UInt8 := [32, 34, 35, 60, 62, 39]
def pathL : List UInt8 := [32, 34, 35, 60, 62, 63, 94, 123, 125, 96]
def userL : List UInt8 := [47, 58, 59, 61, 64, 91, 92, 93, 124]
/-- The bytes that a set has besides those that no text shows. -/
def setL (n : Nat) : List UInt8 := if n = 2 then fragL else if n = 3 then queryL else if n = 4 then pathL else if n = 5 then userL ++ pathL else []
def amongB (l : List UInt8) (c : UInt8) : Bool := l.contains c
def ctl (c : UInt8) : Bool := decide (c.toNat < 32) || decide (126 < c.toNat)
def hasB (n : Nat) (c : UInt8) : Bool := if n = 0 ∨ 5 < n then false else ctl c || (setL n).contains c

theorem all_u8' (p : UInt8 → Bool) (h : (List.range 256).all (fun n => p (UInt8.ofNat n)) = true) (c : UInt8) : p c = true := by
  have h1 := List.all_eq_true.1 h c.toNat (List.mem_range.2 c.toNat_lt)
  simpa using h1
theorem user_among (c : UInt8) : ([32, 34, 35, 60, 62, 63, 94, 123, 125, 96, 47, 58, 59, 61, 64, 91, 92, 93, 124] : List UInt8).contains c = (setL 5).contains c := by
  have := all_u8' (fun c => ([32, 34, 35, 60, 62, 63, 94, 123, 125, 96, 47, 58, 59, 61, 64, 91, 92, 93, 124] : List UInt8).contains c == (setL 5).contains c) (by decide +kernel) c
  simpa using this
end Go.Proofs.Foot
