/- Walk: ascii's Split. -/
import Derived.Test.YtalinfpakmcobaaDoorTrim
import Derived.Test.YtalinfpakmcobaaDoorSpec01d
import Derived.Lib.Builder
namespace Go.Proofs.YtalinfpakmcobaaDoor
open Go.RowKit Go.Lib Go.Proofs.Foot

/-- Block g is a row of texts. -/
def Texts (w : World) (g : Nat) (l : List ByteArray) : Prop := w.heap[g]? = some (.cells (l.map Value.string).toArray 9 (0, 0))
theorem Texts.cell {w : World} {g : Nat} {l : List ByteArray} (h : Texts w g l) {k : Nat} {t : ByteArray} (hk : l[k]? = some t) : w.cell? ⟨g, k, none⟩ = some (.string t) := by
  rw [cell_of_row _ _ _ _ _ _ h]; simp [hk]
theorem Texts.free {w : World} {g : Nat} {l : List ByteArray} (h : Texts w g l) (k : Nat) : w.frozen? ⟨g, k, none⟩ = false := frozen_of_heap h k
theorem Texts.lt {w : World} {g : Nat} {l : List ByteArray} (h : Texts w g l) : g < w.heap.size := (Array.getElem?_eq_some_iff.1 h).1
theorem Texts.below {w w' : World} {B g : Nat} {l : List ByteArray} (h : Texts w g l) (hb : Below B w w') (hg : g < B) : Texts w' g l := (hb.block g hg).trans h
theorem Texts.set {w : World} {g : Nat} {l : List ByteArray} (h : Texts w g l) (k : Nat) (t : ByteArray) : Texts (w.setCell ⟨g, k, none⟩ (.string t)) g (l.set k t) := by
  have := heap_setCell_same w g k _ _ (.string t) h
  unfold Texts
  rw [this]
  simp [List.map_set]
theorem cutAt_le (a : UInt8) : ∀ (l p : List UInt8), p ∈ cutAt a l → p.length ≤ l.length
  | [], p, h => by simp [cutAt] at h; subst h; simp
  | c :: l, p, h => by
    rw [cutAt] at h
    split at h
    · rcases List.mem_cons.1 h with rfl | h
      · simp
      · have := cutAt_le a l p h; simp; omega
    · split at h
      · rename_i q qs hq
        rcases List.mem_cons.1 h with rfl | h
        · have := cutAt_le a l q (by rw [hq]; simp); simp; omega
        · have := cutAt_le a l p (by rw [hq]; exact List.mem_cons_of_mem _ h); simp; omega
      · simp at h; subst h; simp
/-- A text without the blanks at its ends. -/
def trimT (t : ByteArray) : ByteArray := ⟨(trim t.data.toList).toArray⟩
/-- The first k trimmed. -/
def mix (l : List ByteArray) (k : Nat) : List ByteArray := (l.take k).map trimT ++ l.drop k
theorem mix_length (l : List ByteArray) (k : Nat) : (mix l k).length = l.length := by simp [mix]; omega
theorem mix_at (l : List ByteArray) {k : Nat} (h : k < l.length) : (mix l k)[k]? = some l[k] := by
  unfold mix
  rw [List.getElem?_append_right (by simp; omega)]
  simp [Nat.min_eq_left (Nat.le_of_lt h), h]
theorem mix_set (l : List ByteArray) {k : Nat} (h : k < l.length) : (mix l k).set k (trimT l[k]) = mix l (k + 1) := by
  unfold mix
  have e1 : ((l.take k).map trimT).length = k := by simp; omega
  rw [List.set_append_right _ _ (by omega), e1, Nat.sub_self, List.drop_eq_getElem_cons h, List.set_cons_zero, List.take_add_one, List.getElem?_eq_getElem h]
  simp only [List.map_append, List.map_cons, List.map_nil, Option.toList_some, List.append_assoc, List.cons_append, List.nil_append]
theorem mix_all (l : List ByteArray) : mix l l.length = l.map trimT := by simp [mix]

theorem conv1 (c : UInt8) (W : World) (g : Nat) (hc : W.cell? ⟨g, 0, none⟩ = some (.int .u8 c.toNat)) :
    (convert 45 9 (.slice (some ⟨g, 0, none⟩) 1 1)).run Tryd.prog W = .ok (.string ⟨#[c]⟩) W :=
  run_convert_bytes_back (P := Tryd.prog) W 45 9 5 ⟨g, 0, none⟩ 1 [c] Tryd.underlying45 Tryd.underlying5 Tryd.underlying9 (fun j hj => by
    obtain rfl : j = 0 := by simp at hj; omega
    exact hc)
theorem cell1 (c : UInt8) (W : World) : (W.alloc (.cells #[.int .u8 c.toNat] 5)).cell? ⟨W.heap.size, 0, none⟩ = some (.int .u8 c.toNat) := by
  rw [World.cell?_alloc_at _ _ _ _ rfl]; rfl

set_option maxHeartbeats 1000000 in
set_option maxRecDepth 100000 in
theorem splitA_any (s : ByteArray) (a : UInt8) (w : World) (hs : s.size ≤ 16777216) (hsh : w.ShapedOpen Tryd.prog) :
    Calls Tryd.prog 14 #[.string s, .int .u8 a.toNat] w fun e w' => ∃ l : List ByteArray, l.map (·.data.toList) = parts a s.data.toList ∧ e = .returned (.slice (some ⟨w.heap.size + 1, 0, none⟩) l.length l.length) ∧ Texts w' (w.heap.size + 1) l ∧ Below w.heap.size w w' := by
  have e2 := fun W => conv1 a (W.alloc (.cells #[.int .u8 a.toNat] 5)) W.heap.size (cell1 a W)
  have b1 : Below w.heap.size w (w.alloc (.cells #[.int .u8 a.toNat] 5)) := (Below.refl _ _).alloc (Nat.le_refl _) _
  have hsp := Tryd.strings_Split_shaped s ⟨#[a]⟩ _ (hsh.keptBut (b1.frame (fun _ => False)) (fun _ h => h.elim)) (by omega) (by show 1 ≤ 1; exact Nat.le_refl 1)
  obtain ⟨L, hL⟩ : ∃ L, L = Lib.splitB ⟨#[a]⟩ 0 (Lib.countB s ⟨#[a]⟩) s := ⟨_, rfl⟩
  have hcut := splitB_cutAt a s
  rw [← hL] at hcut hsp
  have hn : Lib.countB s ⟨#[a]⟩ + 1 = L.length := by
    have h1 := congrArg List.length hcut
    rw [List.length_map, cutAt_length] at h1
    have h2 : Lib.countB s ⟨#[a]⟩ = s.data.toList.count a := count_at a _ _ (Nat.le_refl _)
    omega
  rw [hn] at hsp
  have hsl : s.data.toList.length = s.size := (Lib.size_eq s).symm
  have hLs : L.length ≤ 16777217 := by
    have h1 := congrArg List.length hcut
    rw [List.length_map, cutAt_length] at h1
    have := List.count_le_length (a := a) (l := s.data.toList)
    omega
  have hel : ∀ t ∈ L, t.size ≤ 16777216 := by
    intro t ht
    have hm : t.data.toList ∈ cutAt a s.data.toList := by rw [← hcut]; exact List.mem_map_of_mem ht
    have := cutAt_le a _ _ hm
    rw [Lib.size_eq]; omega
  have Hcut := hid hcut
  have Hel := hid hel
  have Hsp := hid hsp
  clear hsp hsh hcut hL hn hsl hel
  go_enter Tryd.func14, Tryd.ntmps14
  go_wp2_with (go_at_call 28; refine Hsp.out.mono ?_; rintro e w1 ⟨rfl, rfl⟩)
  have ht0 : Texts ((w.alloc (.cells #[.int .u8 a.toNat] 5)).alloc (.cells (L.map Value.string).toArray 9)) (w.heap.size + 1) (mix L 0) := by
    have e : (w.alloc (.cells #[.int .u8 a.toNat] 5)).heap.size = w.heap.size + 1 := by simp
    have := heap_alloc_new (w.alloc (.cells #[.int .u8 a.toNat] 5)) (.cells (L.map Value.string).toArray 9)
    rw [e] at this
    exact this
  have HT0 := hid ht0
  have HB0 := hid (b1.alloc (by simp) (.cells (L.map Value.string).toArray 9))
  clear ht0 b1 e2
  generalize World.alloc _ (.cells (L.map Value.string).toArray 9) = w1 at *
  go_loopw [15] (fun i wr => ∃ k : Nat, k ≤ L.length ∧ i = .int .i64 k ∧ Hid (Texts wr (w.heap.size + 1) (mix L k) ∧ Below w.heap.size w wr)) (fun i _ => L.length - (RowKit.intOf i).toNat)
  case atStart => exact ⟨0, Nat.zero_le _, rfl, hid ⟨HT0.out, HB0.out⟩⟩
  case round =>
    obtain ⟨k, hk, rfl, hh⟩ := hrel
    obtain ⟨hT, hbel⟩ := hh.out
    clear hh
    by_cases hlt : k < L.length
    · obtain ⟨t, ht⟩ : ∃ t, L[k]'hlt = t := ⟨_, rfl⟩
      have hc : wr.cell? ⟨w.heap.size + 1, k, none⟩ = some (.string t) := hT.cell (by rw [mix_at L hlt, ht])
      have hts : t.size ≤ 16777216 := Hel.out t (by rw [← ht]; exact List.getElem_mem hlt)
      have HT := hid hT
      have Hbel := hid hbel
      have Ht := hid ht
      clear hT hbel ht
      go_wp2_with (go_at_call 12; refine (trimA_any t _ hts).mono ?_; rintro e w3 ⟨rfl, hb3⟩; have hT3 := HT.out.below hb3 HT.out.lt; have hc3 : w3.cell? ⟨w.heap.size + 1, k, none⟩ = some (.string t) := hT3.cell (by rw [mix_at L hlt, Ht.out]); have hf3 := hT3.free k; have HT3 := hid hT3; have HB3 := hid (below_chain Hbel.out hb3); clear hT3 hb3)
      go_roundw
      case rel =>
        refine ⟨k + 1, by omega, by go_num, hid ⟨?_, HB3.out.setCell (by simp) _⟩⟩
        rw [← mix_set L hlt, Ht.out]
        exact HT3.out.set k (trimT t)
      case measure => simp [RowKit.intOf]; omega
    · obtain rfl : k = L.length := by omega
      rw [mix_all] at hT
      have Hfin : Hid ((L.map trimT).map (·.data.toList) = parts a s.data.toList) := by
        refine hid ?_
        unfold parts
        rw [← Hcut.out, List.map_map, List.map_map]
        apply List.map_congr_left
        intro t _
        simp [trimT]
      have HT := hid hT
      have HB := hid hbel
      clear hT hbel
      have hlen : (L.map trimT).length = L.length := by rw [List.length_map]
      have Hlen := hid hlen
      clear hlen
      go_wp2
      go_ret
      have fin : ∀ n : Nat, n = L.length → Ending.returned (Value.slice (some ⟨w.heap.size + 1, 0, none⟩) L.length L.length) = .returned (.slice (some ⟨w.heap.size + 1, 0, none⟩) n n) := fun n h => by rw [h]
      exact ⟨L.map trimT, Hfin.out, fin _ Hlen.out, HT.out, HB.out⟩
end Go.Proofs.YtalinfpakmcobaaDoor
