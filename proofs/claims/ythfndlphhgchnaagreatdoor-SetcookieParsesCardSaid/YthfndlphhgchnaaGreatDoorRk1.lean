/- Walks: the reference's run and told. -/
import Derived.Test.YthfndlphhgchnaaGreatDoorNumR
import Derived.Test.YthfndlphhgchnaaGreatDoorSpec07b
namespace Go.Proofs.YthfndlphhgchnaaGreatDoor
open Go.RowKit Go.Lib Go.Proofs.Foot

theorem digsP_at {l : List UInt8} {k : Nat} (hk : k ≤ l.length) (hall : ∀ c ∈ l.take k, digB c = true) (hend : ∀ h : k < l.length, digB l[k] = false) : digsP l = l.take k := by
  have e := List.take_append_drop k l
  unfold digsP
  rw [← e, List.takeWhile_append_of_pos hall]
  have : (l.drop k).takeWhile digB = [] := by
    by_cases h : k < l.length
    · rw [List.drop_eq_getElem_cons h, List.takeWhile_cons_of_neg (by rw [hend h]; decide)]
    · rw [List.drop_eq_nil_of_le (by omega)]; rfl
  rw [this]; simp

set_option maxRecDepth 100000 in
theorem run_any (s : ByteArray) (w : World) (hs : s.size ≤ 16777216) :
    Calls Tryz.prog 122 #[.string s] w fun e w' => e = .returned (.int .i64 ((digsP s.data.toList).length : Nat)) ∧ w = w' := by
  have hsl : s.data.toList.length = s.size := (Lib.size_eq s).symm
  have Hsl := hid hsl
  clear hsl
  go_enter Tryz.func122, Tryz.ntmps122
  go_wp2
  go_loop [3] (fun n => ∃ k : Nat, k ≤ s.size ∧ n = .int .i64 k ∧ Hid (∀ c ∈ s.data.toList.take k, digB c = true)) (fun n => s.size - (RowKit.intOf n).toNat)
  case atStart => exact ⟨0, Nat.zero_le _, rfl, hid (by simp)⟩
  case round =>
    obtain ⟨k, hk, rfl, hall⟩ := hrel
    by_cases hlt : k < s.size
    · obtain ⟨c, hc⟩ : ∃ c, s[k]'hlt = c := ⟨_, rfl⟩
      have hl : k < s.data.toList.length := by rw [Hsl.out]; exact hlt
      have hcl : s.data.toList[k]'hl = c := hc
      cases hdg : digB c with
      | true =>
        have Hall : Hid (∀ d ∈ s.data.toList.take (k + 1), digB d = true) := by
          refine hid fun d hd => ?_
          rw [List.take_add_one, List.getElem?_eq_getElem hl, Option.toList_some, hcl] at hd
          rcases List.mem_append.1 hd with h | h
          · exact hall.out d h
          · rw [List.mem_singleton.1 h]; exact hdg
        have Hdg := hid hdg
        clear hcl hdg hall hl
        go_wp2_with (go_at_call 76; refine (digit_is c true Hdg.out _).mono ?_; rintro e w1 ⟨rfl, rfl⟩)
        go_round
        case rel => exact ⟨k + 1, by omega, by go_num, Hall⟩
        case measure => simp [RowKit.intOf]; omega
      | false =>
        have H := hid (digsP_at (Nat.le_of_lt hl) hall.out (fun h => by rw [show s.data.toList[k]'h = c from hc]; exact hdg))
        have hlen : ((s.data.toList.take k).length : Nat) = k := by rw [List.length_take]; omega
        have Hlen := hid hlen
        have Hdg := hid hdg
        clear hcl hdg hall hl hlen
        go_wp2_with (go_at_call 76; refine (digit_is c false Hdg.out _).mono ?_; rintro e w1 ⟨rfl, rfl⟩)
        go_ret
        exact ⟨ret_int (by rw [H.out, Hlen.out]), rfl⟩
    · have H := hid (digsP_at (l := s.data.toList) (k := k) (by rw [Hsl.out]; omega) hall.out (fun h => by rw [Hsl.out] at h; omega))
      have hlen : ((s.data.toList.take k).length : Nat) = k := by rw [List.length_take, Hsl.out]; omega
      have Hlen := hid hlen
      clear hall hlen
      go_wp2
      go_ret
      exact ⟨ret_int (by rw [H.out, Hlen.out]), rfl⟩

theorem told_yes (s : ByteArray) (a b : Nat) (A B : Int) (hA : A = a) (hB : B = b) (hb4 : b ≤ 4) (ha1 : 1 ≤ a) (hs : s.size ≤ 16777216) (n : Nat) (hn : numP s.data.toList a b = some n) (w : World) :
    Calls Tryz.prog 98 #[.string s, .int .i64 A, .int .i64 B] w fun e w' => e = .returned (.tuple #[.int .i64 n, .int .i64 ((digsP s.data.toList).length : Nat)]) ∧ w = w' := by
  subst hA hB
  obtain ⟨⟨n1, n2⟩, rfl⟩ := numP_some hn
  have hl := restP_length s.data.toList
  rw [← Lib.size_eq] at hl
  have hx : (s.extract 0 (digsP s.data.toList).length).data.toList = digsP s.data.toList := by
    rw [extract_eq]; simp only [List.drop_zero, Nat.sub_zero]; exact digsP_take _
  have hxs : (s.extract 0 (digsP s.data.toList).length).size ≤ 16777216 := by rw [Lib.size_eq, hx]; omega
  have h9 := numP_bd4 (a := a) (l := s.data.toList) (n := digV 0 (digsP s.data.toList)) (by rw [numP_yes ⟨n1, by omega⟩])
  have hv := numV_yes (l := digsP s.data.toList) (most := 9999) (by intro e; rw [e] at n1; simp at n1; omega) (by omega) (digsP_all _) (by omega)
  have HN := hid (fun w => numberR_any (s.extract 0 (digsP s.data.toList).length) 9999 w hxs)
  have HR := hid (fun w => run_any s w hs)
  rw [hx, hv] at HN
  obtain ⟨k, hk⟩ : ∃ k, k = (digsP s.data.toList).length := ⟨_, rfl⟩
  obtain ⟨v, hvv⟩ : ∃ v, v = digV 0 (digsP s.data.toList) := ⟨_, rfl⟩
  rw [← hk] at n1 n2 HN HR hl ⊢
  rw [← hvv] at HN ⊢
  have hks : k ≤ s.size := by omega
  have hk0 : ¬ k < a := by omega
  have hk1 : ¬ k > b := by omega
  clear hx hxs hv hk hvv h9 hn hl
  go_enter Tryz.func98, Tryz.ntmps98
  go_wp2_with (first
    | (go_at_call 122; refine (HR.out _).mono ?_; rintro e w1 ⟨rfl, rfl⟩)
    | (go_at_call 123; refine (HN.out _).mono ?_; rintro e w1 ⟨rfl, rfl⟩))
  go_ret2
  exact ⟨rfl, rfl⟩
theorem told_no (s : ByteArray) (a b : Nat) (A B : Int) (hA : A = a) (hB : B = b) (_hb4 : b ≤ 4) (hs : s.size ≤ 16777216) (hn : numP s.data.toList a b = none) (w : World) :
    Calls Tryz.prog 98 #[.string s, .int .i64 A, .int .i64 B] w fun e w' => e = .returned (.tuple #[.int .i64 0, .int .i64 0]) ∧ w = w' := by
  subst hA hB
  have hno := numP_none hn
  have HR := hid (fun w => run_any s w hs)
  obtain ⟨k, hk⟩ : ∃ k, k = (digsP s.data.toList).length := ⟨_, rfl⟩
  rw [← hk] at hno HR
  clear hn hk
  by_cases n1 : a ≤ k
  · have n2 : k > b := by omega
    have n3 : ¬ k < a := by omega
    clear hno
    go_enter Tryz.func98, Tryz.ntmps98
    go_wp2_with (go_at_call 122; refine (HR.out _).mono ?_; rintro e w1 ⟨rfl, rfl⟩)
    go_ret2
    exact ⟨rfl, rfl⟩
  · have n2 : k < a := by omega
    clear hno
    go_enter Tryz.func98, Tryz.ntmps98
    go_wp2_with (go_at_call 122; refine (HR.out _).mono ?_; rintro e w1 ⟨rfl, rfl⟩)
    go_ret2
    exact ⟨rfl, rfl⟩
end Go.Proofs.YthfndlphhgchnaaGreatDoor
