/- Walk: sts.Parse. What its loop keeps. -/
import Derived.Test.YtnmdcbneoipllaaDoorSt9
namespace Go.Proofs.YtnmdcbneoipllaaDoor
open Go.RowKit Go.Lib Go.Proofs.Foot

theorem oneS_trimL (l : List UInt8) (st : Wst) : oneS (trimL l) st = oneS l st := by
  unfold oneS dirS
  rw [atS_trimL, wordS_trimL]
theorem runS_trimL (n : Nat) (l : List UInt8) (st : Wst) : runS n (trimL l) st = runS n l st := by
  cases n with
  | zero => rfl
  | succ n => rw [runS, runS, trimL_trimL, oneS_trimL]
/-- One round of the loop, in the specification's words. -/
theorem runS_round {k n : Nat} {S : List UInt8} {st : Wst} (hS : trimL S = S) (hne : S ≠ []) (hk : S.length < k + 1) (hn : ∀ r st', oneS S st = some (r, st') → (trimL r).length < n + 1) :
    runS (k + 1) S st = (oneS S st).bind fun p => runS (n + 1) (trimL p.1) p.2 := by
  rw [runS, hS]
  cases hc : S with
  | nil => exact absurd hc hne
  | cons d l =>
    simp only
    rw [← hc]
    cases ho : oneS S st with
    | none => rfl
    | some p =>
      simp only [Option.bind_some]
      have h1 := oneS_len (r := p.1) (st' := p.2) ho
      have h2 := hn p.1 p.2 ho
      rw [runS_trimL]
      rcases Nat.lt_or_ge p.1.length (n + 1) with h3 | h3
      · exact runS_fuel _ _ _ _ (by omega) h3
      · rw [← runS_trimL k, ← runS_trimL (n + 1)]
        have := trimL_len p.1
        exact runS_fuel _ _ _ _ (by omega) h2
def finS (o : Option Wst) : Option (Nat × Bool) := o.bind fun st => if st.told.contains maxAgeL then some (st.age, st.subs) else none
/-- What holds at the loop's head. -/
def Head (s : ByteArray) (w : World) (k : Nat) (wr : World) : Prop :=
  ∃ (S : ByteArray) (st : Wst), S.size = k ∧ trimL S.data.toList = S.data.toList ∧ finS (runS (k + 1) S.data.toList st) = parseS s.data.toList ∧ st.told.length + k ≤ s.size ∧ Asc S.data.toList ∧ PS w.heap.size w wr S st
theorem PS.start (w : World) (s : ByteArray) : PS w.heap.size w ((((w.alloc (.cells #[.int .i64 0, .bool false] 23)).alloc (.cells #[.int .i64 0] 24)).alloc (.cells #[.string s] 47)).alloc (.map #[] 0)) s ⟨[], 0, false⟩ := by
  have b1 : Below w.heap.size w (w.alloc (.cells #[.int .i64 0, .bool false] 23)) := (Below.refl _ _).alloc (Nat.le_refl _) _
  refine ⟨?_, ?_, ?_, ?_, ((b1.alloc (by simp) _).alloc (by simp; omega) _).alloc (by simp; omega) _⟩
  · refine (Below.heap_alloc _ _ _ (by simp; omega)).trans ((Below.heap_alloc _ _ _ (by simp; omega)).trans ((Below.heap_alloc _ _ _ (by simp)).trans ?_))
    exact heap_alloc_new _ _
  · refine (Below.heap_alloc _ _ _ (by simp)).trans ((Below.heap_alloc _ _ _ (by simp)).trans ?_)
    have := heap_alloc_new (w.alloc (.cells #[.int .i64 0, .bool false] 23)) (.cells #[.int .i64 0] 24)
    simpa using this
  · refine (Below.heap_alloc _ _ _ (by simp)).trans ?_
    have := heap_alloc_new ((w.alloc (.cells #[.int .i64 0, .bool false] 23)).alloc (.cells #[.int .i64 0] 24)) (.cells #[.string s] 47)
    simpa using this
  · have := Told.made (((w.alloc (.cells #[.int .i64 0, .bool false] 23)).alloc (.cells #[.int .i64 0] 24)).alloc (.cells #[.string s] 47))
    simpa using this
theorem PS.subs_ {B : Nat} {w wr : World} {S : ByteArray} {st : Wst} (h : PS B w wr S st) (b : Bool) : PS B w (wr.setCell ⟨B, 1, none⟩ (.bool b)) S ⟨st.told, st.age, b⟩ := by
  have lt := h.told.lt
  have hn : ∀ k, k ≠ B → (wr.setCell ⟨B, 1, none⟩ (.bool b)).heap[k]? = wr.heap[k]? := fun k hk => Below.heap_setCell wr ⟨B, 1, none⟩ _ k hk
  refine ⟨?_, (hn _ (by omega)).trans h.errn, (hn _ (by omega)).trans h.rd, h.told.kept (hn _ (by omega)), h.below.setCell (Nat.le_refl _) _⟩
  rw [heap_setCell_same wr B 1 _ _ (.bool b) h.wish]; rfl
theorem PS.err_ {B : Nat} {w wr : World} {S : ByteArray} {st : Wst} (h : PS B w wr S st) : PS B w (wr.setCell ⟨B + 1, 0, none⟩ (.int .i64 0)) S st := by
  have lt := h.told.lt
  have hn : ∀ k, k ≠ B + 1 → (wr.setCell ⟨B + 1, 0, none⟩ (.int .i64 0)).heap[k]? = wr.heap[k]? := fun k hk => Below.heap_setCell wr ⟨B + 1, 0, none⟩ _ k hk
  refine ⟨(hn _ (by omega)).trans h.wish, ?_, (hn _ (by omega)).trans h.rd, h.told.kept (hn _ (by omega)), h.below.setCell (Nat.le_succ _) _⟩
  rw [heap_setCell_same wr (B + 1) 0 _ _ (.int .i64 0) h.errn]; rfl
def maxAgeT : ByteArray := ⟨#[109, 97, 120, 45, 97, 103, 101]⟩
theorem suf_trans {a b c : List UInt8} (h : ∃ p, a = p ++ b) (h' : ∃ p, b = p ++ c) : ∃ p, a = p ++ c := by
  obtain ⟨p, rfl⟩ := h
  obtain ⟨q, rfl⟩ := h'
  exact ⟨p ++ q, by simp⟩
theorem wordS_suffix {l v r : List UInt8} (h : wordS l = some (v, r)) : ∃ p, l = p ++ r := by
  unfold wordS at h
  split at h
  · injection h with h
    injection h with _ h
    rw [← h]
    exact suf_trans (trimL_suffix l) ⟨wordW (trimL l), (List.takeWhile_append_dropWhile).symm⟩
  · cases h
theorem quoS_suffix : ∀ (l : List UInt8) (esc : Bool) (acc v r : List UInt8), quoS esc acc l = some (v, r) → ∃ p, l = p ++ r
  | [], _, _, _, _, h => by cases h
  | c :: l, esc, acc, v, r, h => by
    have step : ∀ {e a}, quoS e a l = some (v, r) → ∃ p, c :: l = p ++ r := fun h => suf_trans ⟨[c], rfl⟩ (quoS_suffix l _ _ _ _ h)
    rw [quoS] at h
    split at h
    · cases h
    · split at h
      · exact step h
      · split at h
        · injection h with h; injection h with _ h2; rw [← h2]; exact ⟨[c], rfl⟩
        · split at h
          · exact step h
          · exact step h
theorem valS_suffix {l v r : List UInt8} (h : valS l = some (v, r)) : ∃ p, l = p ++ r := by
  unfold valS at h
  split at h
  · rename_i t ht
    exact suf_trans (atS_suffix ht) (quoS_suffix _ _ _ _ _ h)
  · exact wordS_suffix h
theorem endS_suffix {l r : List UInt8} (h : endS l = some r) : ∃ p, l = p ++ r := by
  unfold endS at h
  split at h
  · injection h with h; exact ⟨l, by rw [← h]; simp⟩
  · rename_i d t ht
    split at h
    · injection h with h
      exact suf_trans (trimL_suffix l) ⟨[d], by rw [ht, h]; rfl⟩
    · cases h
theorem wordS_vlen {l v r : List UInt8} (h : wordS l = some (v, r)) : v.length ≤ l.length := by
  unfold wordS at h
  split at h
  · injection h with h
    injection h with h1 h2
    have h3 := wordR_len (trimL l)
    have h4 := trimL_len l
    rw [← h1]; omega
  · cases h
theorem quoS_vlen : ∀ (l : List UInt8) (esc : Bool) (acc v r : List UInt8), quoS esc acc l = some (v, r) → v.length ≤ acc.length + l.length
  | [], _, _, _, _, h => by cases h
  | c :: l, esc, acc, v, r, h => by
    rw [quoS] at h
    split at h
    · cases h
    · split at h
      · have := quoS_vlen l _ _ _ _ h; simp at this ⊢; omega
      · split at h
        · injection h with h; injection h with h1 h2; rw [← h1]; omega
        · split at h
          · have := quoS_vlen l _ _ _ _ h; simp; omega
          · have := quoS_vlen l _ _ _ _ h; simp at this ⊢; omega
theorem valS_vlen {l v r : List UInt8} (h : valS l = some (v, r)) : v.length ≤ l.length := by
  unfold valS at h
  split at h
  · rename_i t ht
    have h1 := atS_len ht
    have h2 := quoS_vlen _ _ _ _ _ h
    simp at h2; omega
  · exact wordS_vlen h
theorem lower_is (V N : ByteArray) (hVs : V.size ≤ 16777216) (hN : lower V.data.toList = N.data.toList) (w : World) :
    Calls Tryd.prog 18 #[.string V] w fun e w' => e = .returned (.string N) ∧ Below w.heap.size w w' := by
  have := lowerA_any V w (by unfold maxLen; omega)
  rw [hN] at this; exact this
/-- A round that goes on. -/
theorem Head.next {s : ByteArray} {w : World} {k : Nat} {S : ByteArray} {st : Wst} (hk : S.size = k) (htr : trimL S.data.toList = S.data.toList) (hne : S.data.toList ≠ []) (hrun : finS (runS (k + 1) S.data.toList st) = parseS s.data.toList) (hlen : st.told.length + k ≤ s.size) (hasc : Asc S.data.toList)
    {r : List UInt8} {st' : Wst} (hone : oneS S.data.toList st = some (r, st')) (hsuf : ∃ p, S.data.toList = p ++ r) (htold : st'.told.length ≤ st.told.length + 1) {T2 : ByteArray} (hT2 : trimL r = T2.data.toList) {wr' : World} (hp : PS w.heap.size w wr' T2 st') : Head s w T2.size wr' := by
  have hrl := oneS_len hone
  rw [← Lib.size_eq] at hrl
  have hT2l := trimL_len r
  rw [hT2, ← Lib.size_eq] at hT2l
  refine ⟨T2, st', rfl, by rw [← hT2, trimL_trimL], ?_, by omega, (hasc.of_suffix hsuf).of_suffix (by rw [← hT2]; exact trimL_suffix _), hp⟩
  rw [← hrun, runS_round (n := T2.size) htr hne (by rw [← Lib.size_eq]; omega) (fun r' st'' h => by rw [hone] at h; injection h with h; injection h with h _; rw [← h, hT2, ← Lib.size_eq]; omega), hone]
  show _ = finS (runS (T2.size + 1) (trimL r) st')
  rw [hT2]
/-- A round that fails. -/
theorem Head.stop {s : ByteArray} {k : Nat} {S : ByteArray} {st : Wst} (hne : trimL S.data.toList ≠ []) (hrun : finS (runS (k + 1) S.data.toList st) = parseS s.data.toList) (hone : oneS S.data.toList st = none) : parseS s.data.toList = none := by
  rw [← hrun, runS]
  cases hc : trimL S.data.toList with
  | nil => exact absurd hc hne
  | cons d l => simp only; rw [hone]; rfl
end Go.Proofs.YtnmdcbneoipllaaDoor
