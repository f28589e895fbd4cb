/- Plain laws: what holds of a date's text; a cookie's text with a date alone. -/
import Derived.Test.YthfndlphhgchnaaGreatDoorSh
namespace Go.Proofs.YthfndlphhgchnaaGreatDoor
open Go.RowKit Go.Lib Go.Proofs.Foot

/-- A byte that may stand in a date's text. -/
def dtB (c : UInt8) : Bool := !(c == 59) && !badB c && !(c == 61)
theorem dtB_ok {c : UInt8} (h : dtB c = true) : okC c ∧ c ≠ 61 := by
  unfold dtB at h
  simp only [Bool.and_eq_true, Bool.not_eq_true', beq_eq_false_iff_ne] at h
  exact ⟨⟨h.1.1, h.1.2⟩, h.2⟩
theorem dtB_dig {c : UInt8} (h : digB c = true) : dtB c = true := by
  have h1 := all_u8 (fun c => !digB c || dtB c) (by decide +kernel) c
  rw [h] at h1
  simpa using h1
theorem dd_dt (n : Nat) : ∀ c ∈ dd n, dtB c = true := fun c hc => dtB_dig (dd_all n c hc)
theorem week_dt (w : Nat) (h : w < 7) : (∀ c ∈ weekName w, dtB c = true) ∧ ∃ a r, weekName w = a :: r ∧ blankB a = false := by
  have h1 : ∀ w < 7, ((weekName w).all dtB && (match weekName w with | [] => false | a :: _ => !blankB a)) = true := by decide +kernel
  have := h1 w h
  simp only [Bool.and_eq_true] at this
  refine ⟨fun c hc => List.all_eq_true.1 this.1 c hc, ?_⟩
  cases e : weekName w with
  | nil => have h2 := this.2; rw [e] at h2; simp at h2
  | cons a r => have h2 := this.2; rw [e] at h2; exact ⟨a, r, rfl, by simpa using h2⟩
theorem mon_dt (m : Nat) (h : m < 12) : ∀ c ∈ monName m, dtB c = true := by
  have h1 : ∀ m < 12, (monName m).all dtB = true := by decide +kernel
  exact fun c hc => List.all_eq_true.1 (h1 m h) c hc
theorem isText_dt {l : List UInt8} {n : Nat} (h : IsText l n) : (∀ c ∈ l, dtB c = true) ∧ trim l = l ∧ dateO l = some (n : Int) := by
  have hd := h.date
  refine ⟨?_, ?_, ?_⟩
  · obtain ⟨_, Y, M, K, W, D, rfl⟩ := h
    unfold textBy textOf hms
    have h1 := (week_dt W D.w7).1
    have h2 := mon_dt (M - 1) (by have := D.m1; have := D.m2; omega)
    intro c hc
    simp only [List.mem_append, List.mem_cons, List.not_mem_nil, or_false, List.nil_append] at hc
    rcases hc with hc | rfl | rfl | hc | rfl | hc | rfl | (hc | hc) | rfl | (hc | rfl | hc | rfl | hc) | rfl | rfl | rfl | rfl
    all_goals first
      | exact h1 c hc
      | exact h2 c hc
      | exact dd_dt _ c hc
      | decide
  · obtain ⟨_, Y, M, K, W, D, rfl⟩ := h
    obtain ⟨_, a, r, e, hb⟩ := week_dt W D.w7
    show trimE (trimL _) = _
    rw [trimL_id, trimE_id]
    · intro c hc
      have e2 : textBy n Y M K W = (weekName W ++ 44 :: ([] ++ 32 :: (dd K ++ 32 :: (monName (M - 1) ++ 32 :: ((dd (Y / 100) ++ dd (Y % 100)) ++ 32 :: (hms (n % 86400 / 3600) (n % 86400 / 60 % 60) (n % 86400 % 60) ++ [32, 71, 77])))))) ++ [84] := by
        unfold textBy textOf
        simp
      rw [e2, List.getLast?_concat] at hc
      injection hc with hc
      rw [← hc]; rfl
    · intro c hc
      unfold textBy textOf at hc
      rw [e] at hc
      injection hc with hc
      rw [← hc]; exact hb
  · rw [dateV_D] at hd
    show dateD (dateP l) = _
    cases e : dateD (dateP l) with
    | none => rw [e] at hd; simp at hd
    | some x => rw [e] at hd; simp at hd; rw [hd]
/-- What 'a=b' with a date tells. -/
theorem date_alone {D : List UInt8} {n : Nat} (h : IsText D n) : parseC ([97, 61, 98, 59, 32, 101, 120, 112, 105, 114, 101, 115, 61] ++ D) = ({ name := [97], value := [98], exp := n, hasExp := true }, 0) := by
  obtain ⟨h1, h2, h3⟩ := isText_dt h
  have hl := isText_len h
  have hm : ∀ c ∈ (32 :: ([101, 120, 112, 105, 114, 101, 115] ++ 61 :: D) : List UInt8), c ≠ 59 ∧ badB c = false := by
    intro c hc
    simp only [List.mem_append, List.mem_cons, List.not_mem_nil, or_false] at hc
    rcases hc with rfl | (rfl | rfl | rfl | rfl | rfl | rfl | rfl) | rfl | hc
    all_goals first
      | exact (dtB_ok (h1 c hc)).1
      | exact ⟨by decide, by decide⟩
  have h0 : parseC [97, 61, 98] = ({ name := [97], value := [98] }, 0) := by decide +kernel
  refine parse_append (l := [97, 61, 98]) (m := 32 :: ([101, 120, 112, 105, 114, 101, 115] ++ 61 :: D)) h0 ?_ ?_ ?_
  · simp [hl]
  · rw [List.any_eq_false]; intro c hc; rw [(hm c hc).2]; decide
  · rw [cutAt_free (fun hc => (hm 59 hc).1 rfl), moreC_cons, moreC_nil, part_eq (by decide), h2, apply_go (by omega)]
    show attrC _ expL D = _
    unfold attrC
    rw [if_pos rfl, h3]
end Go.Proofs.YthfndlphhgchnaaGreatDoor
