/- Walk: the reference's parts of chapter 11. -/
import Derived.Test.YtnmdcbneoipllaaDoorSt33
namespace Go.Proofs.YtnmdcbneoipllaaDoor
open Go.RowKit Go.Lib Go.Proofs.Foot

def PartsP (s : ByteArray) (w : World) (e : Ending) (w' : World) : Prop := ∃ (v : Value) (L : List ByteArray), e = .returned v ∧ L.map (·.data.toList) = partsE false false [] s.data.toList ∧ (∀ t ∈ L, t.size ≤ s.size) ∧ L.length ≤ s.size + 1 ∧ w'.ownsRow w.heap.size 9 1 v L.length (L.map Value.string) ∧ Below w.heap.size w w'
theorem sub_len (s : ByteArray) (f k : Nat) : (s.data.toList.take k).drop f = (s.data.toList.drop f).take (k - f) := by
  rw [List.drop_take]
theorem dropNil {l : List UInt8} {i : Nat} (h : l.length ≤ i) : l.drop i = [] := List.drop_eq_nil_of_le h
/-- What the loop has still to do. -/
def leftP (s : ByteArray) (q : Bool) (f k : Nat) : List (List UInt8) := partsE q false ((s.data.toList.take k).drop f) (s.data.toList.drop k)
theorem cur_snoc {l : List UInt8} {f k : Nat} {c : UInt8} (hf : f ≤ k) (h : l[k]? = some c) : (l.take (k + 1)).drop f = (l.take k).drop f ++ [c] := by
  have hk := (List.getElem?_eq_some_iff.1 h).1
  rw [List.take_add_one, h, Option.toList_some, List.drop_append_of_le_length (by rw [List.length_take]; omega)]
theorem leftP_quote {s : ByteArray} {q : Bool} {f k : Nat} (hf : f ≤ k) (h : s.data.toList[k]? = some 34) : leftP s q f k = leftP s (!q) f (k + 1) := by
  unfold leftP
  rw [drop_at h, partsE, if_neg (by decide), if_pos rfl, cur_snoc hf h]
theorem leftP_semi {s : ByteArray} {f k : Nat} (h : s.data.toList[k]? = some 59) : leftP s false f k = (s.data.toList.take k).drop f :: leftP s false (k + 1) (k + 1) := by
  unfold leftP
  rw [drop_at h, partsE, if_neg (by decide), if_neg (by decide), if_neg (by decide), if_pos ⟨rfl, rfl⟩]
  rw [dropNil (l := s.data.toList.take (k + 1)) (i := k + 1) (by rw [List.length_take]; omega)]
theorem leftP_plain {s : ByteArray} {q : Bool} {f k : Nat} {c : UInt8} (hf : f ≤ k) (h : s.data.toList[k]? = some c) (h1 : c ≠ 34) (h2 : ¬ (c = 92 ∧ q = true)) (h3 : ¬ (c = 59 ∧ q = false)) : leftP s q f k = leftP s q f (k + 1) := by
  unfold leftP
  rw [drop_at h, partsE, if_neg (by decide), if_neg h1, if_neg h2, if_neg h3, cur_snoc hf h]
theorem leftP_esc {s : ByteArray} {f k : Nat} (hf : f ≤ k) (h : s.data.toList[k]? = some 92) : leftP s true f k = leftP s true f (k + 2) := by
  unfold leftP
  rw [drop_at h, partsE, if_neg (by decide), if_neg (by decide), if_pos ⟨rfl, rfl⟩, ← cur_snoc hf h]
  cases h2 : s.data.toList[k + 1]? with
  | none =>
    have hl := List.getElem?_eq_none_iff.1 h2
    rw [dropNil (l := s.data.toList) (i := k + 1) hl, dropNil (l := s.data.toList) (i := k + 2) (by omega), List.take_of_length_le (l := s.data.toList) (i := k + 1) hl, List.take_of_length_le (l := s.data.toList) (i := k + 2) (by omega)]
    rfl
  | some d =>
    rw [drop_at h2, partsE, if_pos rfl, ← cur_snoc (by omega) h2]
theorem leftP_end {s : ByteArray} {q : Bool} {f k : Nat} (h : s.size ≤ k) : leftP s q f k = [s.data.toList.drop f] := by
  unfold leftP
  rw [Lib.size_eq] at h
  rw [List.drop_eq_nil_of_le h, List.take_of_length_le h]; rfl
set_option maxHeartbeats 2000000 in
set_option maxRecDepth 100000 in
theorem partsR_any (s : ByteArray) (hs : s.size ≤ 65536) (w : World) :
    Calls Tryd.prog 30 #[.string s] w (PartsP s w) := by
  go_enter Tryd.func30, Tryd.ntmps30
  go_wp2
  go_loopg [3, 4, 5, 6] (s.size + 2) (fun g v fv qv i wr => ∃ (k f : Nat) (q : Bool) (L : List ByteArray), f ≤ k ∧ f ≤ s.size ∧ k + g = s.size + 2 ∧ 1 ≤ g ∧ i = .int .i64 k ∧ fv = .int .i64 f ∧ qv = .bool q ∧ L.length ≤ f ∧ wr.ownsRow w.heap.size 9 1 v L.length (L.map Value.string) ∧ Below w.heap.size w wr ∧ Hid (∀ t ∈ L, t.size ≤ s.size) ∧ Hid (L.map (·.data.toList) ++ leftP s q f k = partsE false false [] s.data.toList))
  case atStart => exact ⟨0, 0, false, [], Nat.le_refl _, Nat.zero_le _, by omega, by omega, rfl, rfl, rfl, Nat.le_refl _, World.ownsRow_nil _ _ _ _, Below.refl _ _, hid (by simp), hid rfl⟩
  case round =>
    obtain ⟨k, f, q, L, hfk, hfs, hkg, hg1, rfl, rfl, rfl, hL, hown, hbel, HS, HL⟩ := hrel
    obtain ⟨ao, cap, rfl⟩ := slice_of_rowS hown
    have Own := hid hown
    have Hb := hid hbel
    have hbs := hbel.size
    clear hown hbel
    by_cases hlt : k < s.size
    · obtain ⟨c, hc⟩ : ∃ c, s[k]'hlt = c := ⟨_, rfl⟩
      have hcl : s.data.toList[k]? = some c := by rw [← hc]; exact Lib.data_getElem? s k hlt
      have c256 : (c.toNat : Int) < 256 := by have := c.toNat_lt; omega
      have hki : (k : Int) < (s.size : Int) := by omega
      by_cases c34 : c = 34
      · have f34 : ((c.toNat : Int) == 34) = true := by rw [c34]; rfl
        rw [c34] at hcl
        have HL2 := hid (show L.map (·.data.toList) ++ leftP s (!q) f (k + 1) = partsE false false [] s.data.toList by rw [← leftP_quote hfk hcl]; exact HL.out)
        clear c34 hcl
        go_wp2
        go_roundg (s.size + 2 - (k + 1))
        case rel => exact ⟨k + 1, f, (!q), L, by omega, by omega, by omega, by omega, by go_num, rfl, rfl, hL, Own.out, Hb.out, HS, HL2⟩
        case measure => omega
      · have f34 : ((c.toNat : Int) == 34) = false := by rw [beq_eq_false_iff_ne]; intro e; exact c34 (UInt8.toNat.inj (by show c.toNat = 34; omega))
        by_cases c92 : c = 92
        · have f92 : ((c.toNat : Int) == 92) = true := by rw [c92]; rfl
          cases q
          · have f59 : ((c.toNat : Int) == 59) = false := by rw [c92]; rfl
            have hne : leftP s false f k = leftP s false f (k + 1) := leftP_plain hfk hcl c34 (fun h => by cases h.2) (fun h => by rw [c92] at h; exact absurd h.1 (by decide))
            clear c92
            have HL2 := hid (show L.map (·.data.toList) ++ leftP s false f (k + 1) = partsE false false [] s.data.toList by rw [← hne]; exact HL.out)
            clear c34 hcl
            go_wp2
            go_roundg (s.size + 2 - (k + 1))
            case rel => exact ⟨k + 1, f, false, L, by omega, by omega, by omega, by omega, by go_num, rfl, rfl, hL, Own.out, Hb.out, HS, HL2⟩
            case measure => omega
          · rw [c92] at hcl
            clear c92
            have HL2 := hid (show L.map (·.data.toList) ++ leftP s true f (k + 2) = partsE false false [] s.data.toList by rw [← leftP_esc hfk hcl]; exact HL.out)
            clear c34 hcl
            go_wp2
            go_roundg (s.size + 2 - (k + 2))
            case rel => exact ⟨k + 2, f, true, L, by omega, by omega, by omega, by omega, by go_num, rfl, rfl, hL, Own.out, Hb.out, HS, HL2⟩
            case measure => omega
        · have f92 : ((c.toNat : Int) == 92) = false := by rw [beq_eq_false_iff_ne]; intro e; exact c92 (UInt8.toNat.inj (by show c.toNat = 92; omega))
          by_cases c59 : c = 59
          · have f59 : ((c.toNat : Int) == 59) = true := by rw [c59]; rfl
            cases q
            · obtain ⟨T, hT⟩ : ∃ T, T = s.extract f k := ⟨_, rfl⟩
              have hTl : T.data.toList = (s.data.toList.take k).drop f := by rw [hT, extract_eq, sub_len]
              have hTz : T.size ≤ s.size := by rw [Lib.size_eq, hTl, List.length_drop, List.length_take, ← Lib.size_eq]; omega
              have sl : ∀ W, (Instr.slice 9 (.string s) (some (.int .i64 (f : Int))) (some (.int .i64 (k : Int))) none).run Tryd.prog W = .ok (.string T) W := fun W => by
                rw [run_slice_string W _ _ _ _ _ _ Tryd.underlying9 (by omega) (by omega) (by omega), hT]; rfl
              rw [c59] at hcl
              have HL2 := hid (show (L ++ [T]).map (·.data.toList) ++ leftP s false (k + 1) (k + 1) = partsE false false [] s.data.toList by
                rw [← HL.out, leftP_semi hcl, List.map_append, List.append_assoc, List.map_cons, List.map_nil, hTl]; rfl)
              have HS2 := hid (show ∀ t ∈ L ++ [T], t.size ≤ s.size by
                intro t ht
                rcases List.mem_append.1 ht with h | h
                · exact HS.out t h
                · simp at h; rw [h]; exact hTz)
              clear c34 c92 c59 hcl hT hTl
              go_wp2_with (at_builtin; refine appS1 rfl _ _ rfl rfl w.heap.size L T (.slice ao L.length cap) rfl Own.out rfl (by omega) hbs ?_; intro v' w5 happ)
              have Happ := hid happ
              clear happ
              go_roundg (s.size + 2 - (k + 1))
              case rel => exact ⟨k + 1, k + 1, false, L ++ [T], by omega, by omega, by omega, by omega, by go_num, by go_num, rfl, by rw [List.length_append, List.length_singleton]; omega, Happ.out.1, Happ.out.below Own.out Hb.out (Nat.le_refl _), HS2, HL2⟩
              case measure => omega
            · have hne : leftP s true f k = leftP s true f (k + 1) := leftP_plain hfk hcl c34 (fun h => c92 h.1) (fun h => by cases h.2)
              clear c92 c59
              have HL2 := hid (show L.map (·.data.toList) ++ leftP s true f (k + 1) = partsE false false [] s.data.toList by rw [← hne]; exact HL.out)
              clear c34 hcl
              go_wp2
              go_roundg (s.size + 2 - (k + 1))
              case rel => exact ⟨k + 1, f, true, L, by omega, by omega, by omega, by omega, by go_num, rfl, rfl, hL, Own.out, Hb.out, HS, HL2⟩
              case measure => omega
          · have f59 : ((c.toNat : Int) == 59) = false := by rw [beq_eq_false_iff_ne]; intro e; exact c59 (UInt8.toNat.inj (by show c.toNat = 59; omega))
            have hne : leftP s q f k = leftP s q f (k + 1) := leftP_plain hfk hcl c34 (fun h => c92 h.1) (fun h => c59 h.1)
            clear c92 c59
            have HL2 := hid (show L.map (·.data.toList) ++ leftP s q f (k + 1) = partsE false false [] s.data.toList by rw [← hne]; exact HL.out)
            clear c34 hcl
            go_wp2
            go_roundg (s.size + 2 - (k + 1))
            case rel => exact ⟨k + 1, f, q, L, by omega, by omega, by omega, by omega, by go_num, rfl, rfl, hL, Own.out, Hb.out, HS, HL2⟩
            case measure => omega
    · have hki : ¬ (k : Int) < (s.size : Int) := by omega
      obtain ⟨T, hT⟩ : ∃ T, T = s.extract f s.size := ⟨_, rfl⟩
      have hTl : T.data.toList = s.data.toList.drop f := by
        rw [hT, extract_eq, List.take_of_length_le]
        rw [List.length_drop, ← Lib.size_eq]; exact Nat.le_refl _
      have hTz : T.size ≤ s.size := by rw [Lib.size_eq, hTl, List.length_drop, ← Lib.size_eq]; omega
      have sl : ∀ W, (Instr.slice 9 (.string s) (some (.int .i64 (f : Int))) none none).run Tryd.prog W = .ok (.string T) W := fun W => by
        rw [run_slice_string_from_if W _ _ _ _ Tryd.underlying9, hT]
        rw [if_pos (by omega)]; rfl
      have HL2 := hid (show (L ++ [T]).map (·.data.toList) = partsE false false [] s.data.toList by
        rw [← HL.out, leftP_end (by omega), List.map_append, List.map_cons, List.map_nil, hTl])
      have HS2 := hid (show ∀ t ∈ L ++ [T], t.size ≤ s.size by
        intro t ht
        rcases List.mem_append.1 ht with h | h
        · exact HS.out t h
        · simp at h; rw [h]; exact hTz)
      clear hT hTl
      go_wp2_with (at_builtin; refine appS1 rfl _ _ rfl rfl w.heap.size L T (.slice ao L.length cap) rfl Own.out rfl (by omega) hbs ?_; intro v' w5 happ)
      have Happ := hid happ
      clear happ
      go_ret
      exact ⟨v', L ++ [T], rfl, HL2.out, HS2.out, by rw [List.length_append, List.length_singleton]; omega, Happ.out.1, Happ.out.below Own.out Hb.out (Nat.le_refl _)⟩
end Go.Proofs.YtnmdcbneoipllaaDoor
