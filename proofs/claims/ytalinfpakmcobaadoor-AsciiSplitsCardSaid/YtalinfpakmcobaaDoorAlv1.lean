/- Walk: chapter 01's alive. And what all its outright laws share. -/
import Derived.Test.YtalinfpakmcobaaDoorLowA
import Derived.Test.YtalinfpakmcobaaDoorAtok
import Derived.Test.YtalinfpakmcobaaDoorNum
import Derived.Test.YtalinfpakmcobaaDoorSameT
import Derived.Test.YtalinfpakmcobaaDoorBeyond
import Derived.Test.YtalinfpakmcobaaDoorSpec01e
namespace Go.Proofs.YtalinfpakmcobaaDoor
open Go.RowKit Go.Lib Go.Proofs.Foot

theorem good_below {w w' : World} (h : w.ShapedOpen Tryd.prog) (hb : Below w.heap.size w w') : w'.ShapedOpen Tryd.prog := h.keptBut (hb.frame (fun _ => False)) (fun _ h => h.elim)
theorem max_of {s : ByteArray} (h : s.size ≤ 16777216) : s.size ≤ maxLen := by unfold maxLen; omega
theorem num_is (w : World) (s : ByteArray) (most : Int) (hs : s.size ≤ 16777216) (v : Value) (hv : numV s.data.toList most = v) :
    Calls Tryd.prog 19 #[.string s, .int .i64 most] w fun e w' => e = .returned v ∧ Below w.heap.size w w' := by
  rw [← hv]; exact numberA_any s most w hs
theorem num_yes (w : World) (s : ByteArray) (most n : Int) (hs : s.size ≤ 16777216) (hb : numB s.data.toList most = true) (hn : (digV 0 s.data.toList : Int) = n) :
    Calls Tryd.prog 19 #[.string s, .int .i64 most] w fun e w' => e = .returned (.tuple #[.int .i64 n, .bool true]) ∧ Below w.heap.size w w' :=
  num_is w s most hs _ (by unfold numV; rw [if_pos hb, hn])
theorem num_no (w : World) (s : ByteArray) (most : Int) (hs : s.size ≤ 16777216) (hb : numB s.data.toList most = false) :
    Calls Tryd.prog 19 #[.string s, .int .i64 most] w fun e w' => e = .returned (.tuple #[.int .i64 0, .bool false]) ∧ Below w.heap.size w w' :=
  num_is w s most hs _ (by unfold numV; rw [if_neg (by rw [hb]; decide)])
theorem lower_is (w : World) (s : ByteArray) (hs : s.size ≤ 16777216) (r : ByteArray) (hr : lower s.data.toList = r.data.toList) :
    Calls Tryd.prog 22 #[.string s] w fun e w' => e = .returned (.string r) ∧ Below w.heap.size w w' := by
  have := lowerA_any s w (max_of hs)
  rw [hr] at this; exact this
theorem same_is (w : World) (s t : ByteArray) (hs : s.size ≤ 16777216) (ht : t.size ≤ 16777216) (b : Bool) (hb : sameB s.data.toList t.data.toList = b) :
    Calls Tryd.prog 23 #[.string s, .string t] w fun e w' => e = .returned (.bool b) ∧ Below w.heap.size w w' := by
  rw [← hb]; exact sameA_any s t w (max_of hs) (max_of ht)
theorem token_is (w : World) (s : ByteArray) (hs : s.size ≤ 16777216) (b : Bool) (hb : token s.data.toList = b) :
    Calls Tryd.prog 25 #[.string s] w fun e w' => e = .returned (.bool b) ∧ Below w.heap.size w w' := by
  rw [← hb]; exact token_any s w (max_of hs)
theorem trim_is (w : World) (s : ByteArray) (hs : s.size ≤ 16777216) (r : ByteArray) (hr : trim s.data.toList = r.data.toList) :
    Calls Tryd.prog 12 #[.string s] w fun e w' => e = .returned (.string r) ∧ Below w.heap.size w w' := by
  have := trimA_any s w hs
  rw [hr] at this; exact this
theorem texts_eq {l m : List ByteArray} (h : l.map (·.data.toList) = m.map (·.data.toList)) : l = m := by
  induction l generalizing m with
  | nil => cases m with
    | nil => rfl
    | cons _ _ => simp at h
  | cons a l ih => cases m with
    | nil => simp at h
    | cons b m =>
      simp only [List.map_cons, List.cons.injEq] at h
      rw [ih h.2]
      obtain ⟨a⟩ := a
      obtain ⟨b⟩ := b
      have := h.1
      simp at this
      rw [this]
theorem split_is (w : World) (hsh : w.ShapedOpen Tryd.prog) (s : ByteArray) (a : UInt8) (hs : s.size ≤ 16777216) (l : List ByteArray) (hl : parts a s.data.toList = l.map (·.data.toList)) :
    Calls Tryd.prog 14 #[.string s, .int .u8 a.toNat] w fun e w' => e = .returned (.slice (some ⟨w.heap.size + 1, 0, none⟩) l.length l.length) ∧ Texts w' (w.heap.size + 1) l ∧ Below w.heap.size w w' := by
  refine (splitA_any s a w hs hsh).mono ?_
  rintro e w' ⟨m, hm, he, ht, hb⟩
  obtain rfl : m = l := texts_eq (hm.trans hl)
  exact ⟨he, ht, hb⟩

theorem below_drewN {B : Nat} {w : World} (n : Nat) : Below B w (w.drewN n) := ⟨rfl, rfl, rfl, Nat.le_refl _, fun _ _ => rfl⟩
theorem sameTexts_is (w : World) (ga gb : Nat) (l : List ByteArray) (ca cb : Nat) (hl : l.length ≤ 140737488355328) (ha : Texts w ga l) (hb : Texts w gb l) :
    Calls Tryd.prog 15 #[.slice (some ⟨ga, 0, none⟩) l.length ca, .slice (some ⟨gb, 0, none⟩) l.length cb] w fun e w' => e = .returned (.bool true) ∧ Below w.heap.size w w' := by
  refine (sameTexts_yes ga gb l ca cb w hl (fun _ _ h => ha.cell h) (fun _ _ h => hb.cell h)).mono ?_
  rintro e w' ⟨he, n, rfl⟩
  exact ⟨he, below_drewN n⟩
theorem Texts.first (w : World) (l : List ByteArray) (cs : Array Value) (h : cs = (l.map Value.string).toArray) : Texts (w.alloc (.cells cs 9)) w.heap.size l := by
  subst h; exact heap_alloc_last _ _

set_option maxHeartbeats 1000000 in
set_option maxRecDepth 100000 in
theorem alive_any (w : World) (h : w.ShapedOpen Tryd.prog) : Calls Tryd.prog 21 #[] w fun e w' => e = .returned (.bool true) ∧ Below w.heap.size w w' := by
  have H := hid h
  clear h
  go_enter Tryd.func21, Tryd.ntmps21
  go_wp2_with fail
  refine (num_yes _ ⟨#[48, 48, 55]⟩ 9 7 (by decide) (by decide +kernel) (by decide +kernel)).mono ?_
  rintro e w1 ⟨rfl, hb1⟩
  have B1 := hid hb1
  clear hb1
  go_wp2_with fail
  refine (num_no _ ⟨#[49, 48]⟩ 9 (by decide) (by decide +kernel)).mono ?_
  rintro e w2 ⟨rfl, hb2⟩
  have B2 := hid (below_chain B1.out hb2)
  clear hb2
  go_wp2_with fail
  refine (lower_is _ ⟨#[65, 98, 67, 45]⟩ (by decide) ⟨#[97, 98, 99, 45]⟩ (by decide +kernel)).mono ?_
  rintro e w3 ⟨rfl, hb3⟩
  have B3 := hid (below_chain B2.out hb3)
  clear hb3
  go_wp2_with fail
  refine (same_is _ ⟨#[72, 111, 115, 116]⟩ ⟨#[104, 79, 83, 84]⟩ (by decide) (by decide) true (by decide +kernel)).mono ?_
  rintro e w4 ⟨rfl, hb4⟩
  have B4 := hid (below_chain B3.out hb4)
  clear hb4
  go_wp2_with fail
  refine (same_is _ ⟨#[97]⟩ ⟨#[98]⟩ (by decide) (by decide) false (by decide +kernel)).mono ?_
  rintro e w5 ⟨rfl, hb5⟩
  have B5 := hid (below_chain B4.out hb5)
  clear hb5
  go_wp2_with fail
  refine (token_is _ ⟨#[83, 101, 116, 45, 67, 111, 111, 107, 105, 101]⟩ (by decide) true (by decide +kernel)).mono ?_
  rintro e w6 ⟨rfl, hb6⟩
  have B6 := hid (below_chain B5.out hb6)
  clear hb6
  go_wp2_with fail
  refine (token_is _ ⟨#[97, 32, 98]⟩ (by decide) false (by decide +kernel)).mono ?_
  rintro e w7 ⟨rfl, hb7⟩
  have B7 := hid (below_chain B6.out hb7)
  clear hb7
  go_wp2_with fail
  refine (trim_is _ ⟨#[32, 97, 32, 98, 9]⟩ (by decide) ⟨#[97, 32, 98]⟩ (by decide +kernel)).mono ?_
  rintro e w8 ⟨rfl, hb8⟩
  have B8 := hid (below_chain B7.out hb8)
  clear hb8
  go_wp2_with fail
  refine (split_is _ (good_below H.out B8.out) ⟨#[97, 59, 32, 98, 32, 59, 59]⟩ 59 (by decide) [⟨#[97]⟩, ⟨#[98]⟩, ⟨#[]⟩, ⟨#[]⟩] (by decide +kernel)).mono ?_
  rintro e w9 ⟨rfl, ht9, hb9⟩
  have B9 := hid (below_chain B8.out hb9)
  have T9 := hid ht9
  clear hb9 ht9
  go_wp2_with fail
  refine (sameTexts_is _ (w8.heap.size + 1) w9.heap.size [⟨#[97]⟩, ⟨#[98]⟩, ⟨#[]⟩, ⟨#[]⟩] 4 4 (by decide) (T9.out.below ((Below.refl _ _).alloc (Nat.le_refl _) _) T9.out.lt) (Texts.first _ _ _ rfl)).mono ?_
  rintro e w10 ⟨rfl, hb10⟩
  have B10 := hid (below_chain (B9.out.alloc B9.out.size _) hb10)
  clear hb10
  go_wp2_with fail
  go_ret
  exact ⟨rfl, B10.out⟩
end Go.Proofs.YtalinfpakmcobaaDoor
