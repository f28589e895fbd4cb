/- Walk: footmanlaw01's SameTexts. -/
import Derived.Test.YtalinfpakmcobaaDoorSplitA
namespace Go.Proofs.YtalinfpakmcobaaDoor
open Go.RowKit Go.Lib Go.Proofs.Foot

set_option maxRecDepth 100000 in
theorem sameTexts_yes (ga gb : Nat) (l : List ByteArray) (ca cb : Nat) (w : World) (hl : l.length ≤ 140737488355328) (ha : ∀ i t, l[i]? = some t → w.cell? ⟨ga, i, none⟩ = some (.string t)) (hb : ∀ i t, l[i]? = some t → w.cell? ⟨gb, i, none⟩ = some (.string t)) :
    Calls Tryd.prog 15 #[.slice (some ⟨ga, 0, none⟩) l.length ca, .slice (some ⟨gb, 0, none⟩) l.length cb] w fun e w' => e = .returned (.bool true) ∧ ∃ n, w' = w.drewN n := by
  have HA := hid ha
  have HB := hid hb
  clear ha hb
  go_enter Tryd.func15, Tryd.ntmps15
  go_wp2
  go_loopw [5] (fun i wr => ∃ k : Nat, k ≤ l.length ∧ i = .int .i64 k ∧ ∃ n, wr = w.drewN n) (fun i _ => l.length - (RowKit.intOf i).toNat)
  case atStart => exact ⟨0, Nat.zero_le _, rfl, 0, rfl⟩
  case round =>
    obtain ⟨k, hk, rfl, n, rfl⟩ := hrel
    by_cases hlt : k < l.length
    · have h1 : (w.drewN n).cell? ⟨ga, k, none⟩ = some (.string l[k]) := HA.out k _ (List.getElem?_eq_getElem hlt)
      have h2 : (w.drewN n).cell? ⟨gb, k, none⟩ = some (.string l[k]) := HB.out k _ (List.getElem?_eq_getElem hlt)
      have h3 : (w.drewN (n + 1)).cell? ⟨ga, k, none⟩ = some (.string l[k]) := h1
      have h4 : (w.drewN (n + 1)).cell? ⟨gb, k, none⟩ = some (.string l[k]) := h2
      go_wp2
      go_region
      all_goals go_wp2
      all_goals go_roundw
      all_goals first
        | exact ⟨k + 1, by omega, by go_num, n + 1, rfl⟩
        | (simp [RowKit.intOf]; omega)
    · go_wp2
      go_ret
      exact ⟨rfl, n, rfl⟩
end Go.Proofs.YtalinfpakmcobaaDoor
