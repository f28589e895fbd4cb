/- The plain functions of chapter 01 (letters, tokens, trimming, parts, numbers), over lists of bytes. No program stands here. -/
namespace Go.Proofs.Foot

def lowB (c : UInt8) : UInt8 := if 65 ≤ c.toNat ∧ c.toNat ≤ 90 then c + 32 else c
def lower (l : List UInt8) : List UInt8 := l.map lowB
def digB (c : UInt8) : Bool := decide (48 ≤ c.toNat ∧ c.toNat ≤ 57)
def signList : List UInt8 := [33, 35, 36, 37, 38, 39, 42, 43, 45, 46, 94, 95, 96, 124, 126, 48, 49, 50, 51, 52, 53, 54, 55, 56, 57, 65, 66, 67, 68, 69, 70, 71, 72, 73, 74, 75, 76, 77, 78, 79, 80, 81, 82, 83, 84, 85, 86, 87, 88, 89, 90, 97, 98, 99, 100, 101, 102, 103, 104, 105, 106, 107, 108, 109, 110, 111, 112, 113, 114, 115, 116, 117, 118, 119, 120, 121, 122]
def signB (c : UInt8) : Bool := signList.contains c
def token (l : List UInt8) : Bool := l.all signB && !l.isEmpty

theorem lowB_up {c : UInt8} (h : 65 ≤ c.toNat ∧ c.toNat ≤ 90) : lowB c = c + 32 := if_pos h
theorem lowB_not {c : UInt8} (h : ¬ (65 ≤ c.toNat ∧ c.toNat ≤ 90)) : lowB c = c := if_neg h
theorem lower_length (l : List UInt8) : (lower l).length = l.length := by simp [lower]

/-- A statement on every byte, by its 256 cases. -/
theorem all_u8 (p : UInt8 → Bool) (h : (List.range 256).all (fun n => p (UInt8.ofNat n)) = true) (c : UInt8) : p c = true := by
  have h1 := List.all_eq_true.1 h c.toNat (List.mem_range.2 c.toNat_lt)
  simpa using h1

def signN (n : Nat) : Bool := decide ((48 ≤ n ∧ n ≤ 57) ∨ (97 ≤ n ∧ n ≤ 122) ∨ (65 ≤ n ∧ n ≤ 90) ∨ n = 33 ∨ n = 35 ∨ n = 36 ∨ n = 37 ∨ n = 38 ∨ n = 39 ∨ n = 42 ∨ n = 43 ∨ n = 45 ∨ n = 46 ∨ n = 94 ∨ n = 95 ∨ n = 96 ∨ n = 124 ∨ n = 126)
theorem signB_eq (c : UInt8) : signB c = signN c.toNat := by
  have := all_u8 (fun c => signB c == signN c.toNat) (by decide +kernel) c
  simpa using this
theorem signB_true {c : UInt8} (h : (48 ≤ c.toNat ∧ c.toNat ≤ 57) ∨ (97 ≤ c.toNat ∧ c.toNat ≤ 122) ∨ (65 ≤ c.toNat ∧ c.toNat ≤ 90) ∨ c.toNat = 33 ∨ c.toNat = 35 ∨ c.toNat = 36 ∨ c.toNat = 37 ∨ c.toNat = 38 ∨ c.toNat = 39 ∨ c.toNat = 42 ∨ c.toNat = 43 ∨ c.toNat = 45 ∨ c.toNat = 46 ∨ c.toNat = 94 ∨ c.toNat = 95 ∨ c.toNat = 96 ∨ c.toNat = 124 ∨ c.toNat = 126) : signB c = true := by
  rw [signB_eq]; exact decide_eq_true h
theorem signB_false {c : UInt8} (h : ¬ ((48 ≤ c.toNat ∧ c.toNat ≤ 57) ∨ (97 ≤ c.toNat ∧ c.toNat ≤ 122) ∨ (65 ≤ c.toNat ∧ c.toNat ≤ 90) ∨ c.toNat = 33 ∨ c.toNat = 35 ∨ c.toNat = 36 ∨ c.toNat = 37 ∨ c.toNat = 38 ∨ c.toNat = 39 ∨ c.toNat = 42 ∨ c.toNat = 43 ∨ c.toNat = 45 ∨ c.toNat = 46 ∨ c.toNat = 94 ∨ c.toNat = 95 ∨ c.toNat = 96 ∨ c.toNat = 124 ∨ c.toNat = 126)) : signB c = false := by
  rw [signB_eq]; exact decide_eq_false h
theorem digB_true {c : UInt8} (h : 48 ≤ c.toNat ∧ c.toNat ≤ 57) : digB c = true := decide_eq_true h
theorem digB_false {c : UInt8} (h : ¬ (48 ≤ c.toNat ∧ c.toNat ≤ 57)) : digB c = false := decide_eq_false h

theorem digB_iff (c : UInt8) : digB c = true ↔ 48 ≤ c.toNat ∧ c.toNat ≤ 57 := decide_eq_true_iff
theorem take_snoc' {l : List UInt8} {k : Nat} (h : k < l.length) : l.take (k + 1) = l.take k ++ [l[k]] := by
  rw [List.take_add_one, List.getElem?_eq_getElem h]; rfl
theorem all_take_snoc {p : UInt8 → Bool} {l : List UInt8} {k : Nat} (h : k < l.length) (ht : (l.take k).all p = true) (hk : p l[k] = true) : (l.take (k + 1)).all p = true := by
  rw [take_snoc' h, List.all_append, ht]; simp [hk]
theorem all_false_at {p : UInt8 → Bool} {l : List UInt8} {k : Nat} (h : k < l.length) (hk : p l[k] = false) : l.all p = false := by
  rw [List.all_eq_false]; exact ⟨l[k], List.getElem_mem h, by simp [hk]⟩
theorem token_false_at {l : List UInt8} {k : Nat} (h : k < l.length) (hk : signB l[k] = false) : token l = false := by
  unfold token; rw [all_false_at h hk]; rfl
theorem token_end {l : List UInt8} {k : Nat} (h : l.length ≤ k) (ht : (l.take k).all signB = true) : token l = !l.isEmpty := by
  unfold token; rw [List.take_of_length_le h] at ht; rw [ht]; simp
theorem size_isEmpty (s : ByteArray) : (!s.data.toList.isEmpty) = decide (0 < s.size) := by
  have : s.size = s.data.toList.length := by simp
  cases h : s.data.toList with
  | nil => rw [this, h]; rfl
  | cons a l => rw [this, h]; simp

/-- The first k elements turned by f. -/
def upd {α : Type} (f : α → α) (l : List α) (k : Nat) : List α := (l.take k).map f ++ l.drop k
theorem upd_zero {α : Type} (f : α → α) (l : List α) : upd f l 0 = l := by simp [upd]
theorem upd_end {α : Type} (f : α → α) (l : List α) {k : Nat} (h : l.length ≤ k) : upd f l k = l.map f := by simp [upd, List.take_of_length_le h, List.drop_of_length_le h]
theorem upd_length {α : Type} (f : α → α) (l : List α) (k : Nat) : (upd f l k).length = l.length := by
  simp [upd]; omega
theorem upd_at {α : Type} (f : α → α) (l : List α) {k : Nat} (h : k < l.length) : (upd f l k)[k]? = some l[k] := by
  unfold upd
  rw [List.getElem?_append_right (by simp; omega)]
  simp only [List.length_map, List.length_take, Nat.min_eq_left (Nat.le_of_lt h), Nat.sub_self]
  rw [List.getElem?_drop, Nat.add_zero, List.getElem?_eq_getElem h]
theorem upd_succ {α : Type} (f : α → α) (l : List α) {k : Nat} (h : k < l.length) : upd f l (k + 1) = (upd f l k).set k (f l[k]) := by
  unfold upd
  rw [List.set_append_right _ _ (by simp; omega)]
  simp only [List.length_map, List.length_take, Nat.min_eq_left (Nat.le_of_lt h), Nat.sub_self]
  rw [List.take_add_one, List.getElem?_eq_getElem h, Option.toList_some, List.map_append, List.append_assoc]
  congr 1
  rw [List.drop_eq_getElem_cons h]
  rfl
end Go.Proofs.Foot
