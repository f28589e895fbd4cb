/- Small laws for DatesForms: one word less to come; the words as texts. -/
import Derived.Test.YtnkfgedpdokcpaaDoorSpec07f
import Derived.Test.YtnkfgedpdokcpaaDoorTwo
namespace Go.Proofs.YtnkfgedpdokcpaaDoor
open Go.RowKit Go.Lib Go.Proofs.Foot

theorem less_mid {A B : List Nat} {k : Nat} (h : (A ++ k :: B).Nodup) : Less (A ++ k :: B) (A ++ B) k ∧ (A ++ B).Nodup := by
  rw [List.nodup_append, List.nodup_cons] at h
  obtain ⟨h1, ⟨h2, h3⟩, h4⟩ := h
  refine ⟨⟨by simp, ?_, fun q hq => ?_⟩, ?_⟩
  · intro hk
    rcases List.mem_append.1 hk with hk | hk
    · exact h4 k hk k (List.mem_cons_self) rfl
    · exact h2 hk
  · simp only [List.mem_append, List.mem_cons]
    constructor
    · rintro (h | h)
      · exact .inl h
      · exact .inr (.inr h)
    · rintro (h | h | h)
      · exact .inl h
      · exact absurd h hq
      · exact .inr h
  · rw [List.nodup_append]
    exact ⟨h1, h3, fun a ha b hb => h4 a ha b (List.mem_cons_of_mem _ hb)⟩
theorem at_split {α : Type} (K : List α) {j : Nat} (hj : j < K.length) : K = K.take j ++ K[j] :: K.drop (j + 1) := by
  rw [← List.drop_eq_getElem_cons hj, List.take_append_drop]
/-- K without its place j. -/
def cutK {α : Type} (K : List α) (j : Nat) : List α := K.take j ++ K.drop (j + 1)
theorem cutK_len {α : Type} (K : List α) {j : Nat} (hj : j < K.length) : (cutK K j).length = K.length - 1 := by
  unfold cutK; rw [List.length_append, List.length_take, List.length_drop]; omega
theorem cutK_map {α β : Type} (f : α → β) (K : List α) (j : Nat) : (cutK K j).map f = cutK (K.map f) j := by
  unfold cutK; rw [List.map_append, List.map_take, List.map_drop]
theorem less_at {K : List Nat} (h : K.Nodup) {j : Nat} (hj : j < K.length) : Less K (cutK K j) (K[j]) ∧ (cutK K j).Nodup := by
  have e := at_split K hj
  have h2 := h
  rw [e] at h2
  have h3 := less_mid h2
  rw [← e] at h3
  exact h3
/-- Word number k as a text. -/
def wT (F : Frm) (k : Nat) : ByteArray := ⟨(wordF F k).toArray⟩
theorem wT_l (F : Frm) (k : Nat) : (wT F k).data.toList = wordF F k := by simp [wT]
theorem yearW_len (F : Frm) : (yearW F).length ≤ 4 := by
  unfold yearW
  split
  · rw [dd_len]; omega
  · show 4 ≤ 4; omega
theorem wordF_len {F : Frm} (hF : F.ok) (k : Nat) : (wordF F k).length ≤ 8 := by
  obtain ⟨_, _, _, _, h1, h2, _⟩ := hF
  unfold wordF
  split
  · exact Nat.le_of_eq (hms_len _ _ _)
  · split
    · rw [dd_len]; omega
    · split
      · rw [(mix_facts _ (by omega)).2.2.2]; omega
      · have := yearW_len F; omega
theorem year_2069 {n : Nat} {Y M K W : Nat} (h : DayIs (n : Int) Y M K W) (hn : n < 3155760000) : Y ≤ 2069 := by
  have hy := h.day.year
  rcases Nat.lt_or_ge 2069 Y with c | c
  · have := befY_mono (show (2070 : Int) ≤ Y by omega)
    have e : befY 2070 = 755687 := by decide
    have : dayN n ≤ (755686 : Int) := by unfold dayN; omega
    omega
  · exact c
end Go.Proofs.YtnkfgedpdokcpaaDoor
