/- Walk of the law StsParses: Parse of sts and of the reference agree on every text. -/
import Derived.Test.YtnmdcbneoipllaaDoorSt37
import Derived.Test.YtnmdcbneoipllaaDoorBeyond
namespace Go.Proofs.YtnmdcbneoipllaaDoor
open Go.RowKit Go.Lib Go.Proofs.Foot

theorem parseV_form (o : Option (Nat × Bool)) : ∃ (n : Nat) (b : Bool) (e : Nat), parseV o = .tuple #[.agg #[.int .i64 n, .bool b], .int .i64 e] := by
  cases o with
  | none => exact ⟨0, false, 4, rfl⟩
  | some p => exact ⟨p.1, p.2, 0, rfl⟩
theorem parseA_long (s : ByteArray) (hs : 65536 < s.size) (w : World) :
    Calls Tryd.prog 13 #[.string s] w fun e w' => e = .returned (.tuple #[.agg #[.int .i64 0, .bool false], .int .i64 3]) ∧ Below w.heap.size w w' := by
  have hsi : (s.size : Int) > 65536 := by omega
  clear hs
  go_enter_defers Tryd.func13, Tryd.ntmps13
  go_wp2
  have hb : Below w.heap.size w ((w.alloc (.cells #[.int .i64 0, .bool false] 23)).alloc (.cells #[.int .i64 3] 24)) := ((Below.refl _ _).alloc (Nat.le_refl _) _).alloc (by simp) _
  have c0 : ((w.alloc (.cells #[.int .i64 0, .bool false] 23)).alloc (.cells #[.int .i64 3] 24)).cell? ⟨w.heap.size, 0, none⟩ = some (.int .i64 0) := (((Below.refl _ _).alloc (Nat.le_refl _) _).cell (p := ⟨w.heap.size, 0, none⟩) (by simp)).trans (by rw [World.cell?_alloc_at _ _ _ _ rfl]; rfl)
  have c1 : ((w.alloc (.cells #[.int .i64 0, .bool false] 23)).alloc (.cells #[.int .i64 3] 24)).cell? ⟨w.heap.size, 1, none⟩ = some (.bool false) := (((Below.refl _ _).alloc (Nat.le_refl _) _).cell (p := ⟨w.heap.size, 1, none⟩) (by simp)).trans (by rw [World.cell?_alloc_at _ _ _ _ rfl]; rfl)
  have c2 : ((w.alloc (.cells #[.int .i64 0, .bool false] 23)).alloc (.cells #[.int .i64 3] 24)).cell? ⟨w.heap.size + 1, 0, none⟩ = some (.int .i64 3) := by rw [World.cell?_alloc_at _ _ _ _ (by simp)]; rfl
  generalize (w.alloc (.cells #[.int .i64 0, .bool false] 23)).alloc (.cells #[.int .i64 3] 24) = w1 at *
  simp [bodyPostD, Leaves, results, Tryd.results13, go_sem, c0, c1, c2]
  exact hb
theorem parseR_long (s : ByteArray) (hs : 65536 < s.size) (w : World) :
    Calls Tryd.prog 14 #[.string s] w fun e w' => e = .returned (.tuple #[.agg #[.int .i64 0, .bool false], .int .i64 3]) ∧ Below w.heap.size w w' := by
  have hsi : (s.size : Int) > 65536 := by omega
  clear hs
  have hr : (w.alloc (.cells #[.int .i64 0, .bool false] 23)).heap[w.heap.size]? = some (.cells #[.int .i64 0, .bool false] 23 (0, 0)) := heap_alloc_new _ _
  have HK := hid hr
  clear hr
  go_enter Tryd.func14, Tryd.ntmps14
  go_wp2
  refine bodyPost_ret (results_ref HK.out _ rfl rfl) rfl ?_
  exact ⟨rfl, (Below.refl _ _).alloc (Nat.le_refl _) _⟩
theorem both_parse (s : ByteArray) : ∃ (n : Nat) (b : Bool) (o : Nat), (∀ w, GoodP w → Calls Tryd.prog 13 #[.string s] w fun e w' => e = .returned (.tuple #[.agg #[.int .i64 n, .bool b], .int .i64 o]) ∧ Below w.heap.size w w') ∧
    ∀ w, Calls Tryd.prog 14 #[.string s] w fun e w' => e = .returned (.tuple #[.agg #[.int .i64 n, .bool b], .int .i64 o]) ∧ Below w.heap.size w w' := by
  by_cases hs : s.size ≤ 65536
  · obtain ⟨n, b, o, h⟩ := parseV_form (parseS s.data.toList)
    refine ⟨n, b, o, fun w G => ?_, fun w => ?_⟩
    · rw [← h]; exact parse_any s hs trivial w G
    · rw [← h, ← ref_eq]; exact parseR_any s hs w
  · exact ⟨0, false, 3, fun w _ => parseA_long s (by omega) w, fun w => parseR_long s (by omega) w⟩
set_option maxHeartbeats 1000000 in
set_option maxRecDepth 100000 in
theorem stsParses_walk (s : ByteArray) (_hs : s.size ≤ maxLen) (z : s.size ≤ 140737488351232) (w : World) (hL : laidMetH Tryd.prog Rows.stsParsesRow.laid w) (hsh : w.ShapedOpen Tryd.prog) :
    Calls Tryd.prog 4 #[.string s] w fun e w' => e = .returned (.bool true) ∧ Below w.heap.size w w' := by
  have G := hid (goodP_of hL (by kernel_rfl) (by kernel_rfl) (by kernel_rfl) hsh)
  clear hL hsh _hs
  obtain ⟨n, b, o, hA, hR⟩ := both_parse s
  have HA := hid hA
  have HR := hid hR
  clear hA hR
  cases hb : beyond [s.size] with
  | true =>
    go_enter Tryd.func4, Tryd.ntmps4
    go_wp2_with (go_at_call 12; refine (beyond1 _ _ z).mono ?_; rintro e w2 ⟨rfl, rfl⟩)
    go_ret
    exact ⟨rfl, (Below.refl _ _).alloc (Nat.le_refl _) _⟩
  | false =>
    go_enter Tryd.func4, Tryd.ntmps4
    go_wp2_with fail
    refine (beyond1 _ _ z).mono ?_
    rintro e w2 ⟨rfl, rfl⟩
    rw [hb]
    have hb2 : Below w.heap.size w (w.alloc (.cells #[.int .i64 s.size] 3)) := (Below.refl _ _).alloc (Nat.le_refl _) _
    have B2 := hid hb2
    clear hb2 hb
    generalize w.alloc _ = w2 at *
    go_wp2_with fail
    refine (HA.out _ (G.out.below B2.out)).mono ?_
    rintro e w3 ⟨rfl, hb3⟩
    have B3 := hid (below_chain B2.out hb3)
    clear hb3
    go_wp2_with fail
    have h0 : (w3.alloc (.cells #[.int .i64 n, .bool b] 23)).cell? ⟨w3.heap.size, 0, none⟩ = some (.int .i64 n) := by rw [World.cell?_alloc_at _ _ _ _ rfl]; rfl
    have h1 : (w3.alloc (.cells #[.int .i64 n, .bool b] 23)).cell? ⟨w3.heap.size, 1, none⟩ = some (.bool b) := by rw [World.cell?_alloc_at _ _ _ _ rfl]; rfl
    have hz : w3.heap.size < (w3.alloc (.cells #[.int .i64 n, .bool b] 23)).heap.size := by simp
    have B4 := hid (B3.out.alloc B3.out.size (.cells #[.int .i64 n, .bool b] 23))
    generalize w3.alloc _ = w4 at *
    refine (HR.out _).mono ?_
    rintro e w5 ⟨rfl, hb5⟩
    have c0 := (hb5.cell (p := ⟨w3.heap.size, 0, none⟩) hz).trans h0
    have c1 := (hb5.cell (p := ⟨w3.heap.size, 1, none⟩) hz).trans h1
    have hz5 : w3.heap.size < w5.heap.size := Nat.lt_of_lt_of_le hz hb5.size
    have B5 := hid (below_chain B4.out hb5)
    clear hb5 h0 h1 hz
    go_wp2
    go_ret
    exact ⟨rfl, B5.out.alloc B5.out.size _⟩
end Go.Proofs.YtnmdcbneoipllaaDoor
