/- Walk of the law SetcookieEnds: Until of setcookie and of the reference agree. -/
import Derived.Test.YthfndlphhgchnaaUntil
import Derived.Deep.RegionHeld3
namespace Go.Proofs.Ythfndlphhgchnaa
open Go.RowKit Go.Lib

/-- The cookie lies in block B; nothing that was there at w0 has turned. -/
def Lies (B : Nat) (a b c d : ByteArray) (ex : Int) (he : Bool) (ag : Int) (ha se hi : Bool) (si : Int) (w0 w : World) : Prop :=
  (w.cell? ⟨B, 0, none⟩ = some (.string a) ∧ w.cell? ⟨B, 1, none⟩ = some (.string b) ∧ w.cell? ⟨B, 2, none⟩ = some (.string c) ∧ w.cell? ⟨B, 3, none⟩ = some (.string d) ∧ w.cell? ⟨B, 4, none⟩ = some (.int .i64 ex) ∧ w.cell? ⟨B, 5, none⟩ = some (.bool he) ∧ w.cell? ⟨B, 6, none⟩ = some (.int .i64 ag) ∧ w.cell? ⟨B, 7, none⟩ = some (.bool ha) ∧ w.cell? ⟨B, 8, none⟩ = some (.bool se) ∧ w.cell? ⟨B, 9, none⟩ = some (.bool hi) ∧ w.cell? ⟨B, 10, none⟩ = some (.int .u8 si)) ∧ Below w0.heap.size w0 w ∧ B < w.heap.size
theorem Lies.go {B : Nat} {a b c d : ByteArray} {ex : Int} {he : Bool} {ag : Int} {ha se hi : Bool} {si : Int} {w0 w w' : World} (h : Lies B a b c d ex he ag ha se hi si w0 w) (hb : Below w.heap.size w w') : Lies B a b c d ex he ag ha se hi si w0 w' := by
  obtain ⟨⟨h0, h1, h2, h3, h4, h5, h6, h7, h8, h9, h10⟩, hbel, hlt⟩ := h
  refine ⟨⟨?_, ?_, ?_, ?_, ?_, ?_, ?_, ?_, ?_, ?_, ?_⟩, below_chain hbel hb, Nat.lt_of_lt_of_le hlt hb.size⟩
  all_goals (rw [hb.cell (by exact hlt)]; assumption)
theorem Lies.new (w : World) (a b c d : ByteArray) (ex : Int) (he : Bool) (ag : Int) (ha se hi : Bool) (si : Int) :
    Lies w.heap.size a b c d ex he ag ha se hi si w (w.alloc (.cells #[.string a, .string b, .string c, .string d, .int .i64 ex, .bool he, .int .i64 ag, .bool ha, .bool se, .bool hi, .int .u8 si] 24)) := by
  refine ⟨⟨?_, ?_, ?_, ?_, ?_, ?_, ?_, ?_, ?_, ?_, ?_⟩, (Below.refl _ _).alloc (Nat.le_refl _) _, by simp⟩
  all_goals (rw [World.cell?_alloc_at _ _ _ _ rfl]; rfl)

set_option maxHeartbeats 1000000 in
set_option maxRecDepth 100000 in
theorem setcookieEnds_walk (a : ByteArray) (_ : a.size ≤ maxLen) (b : ByteArray) (_ : b.size ≤ maxLen) (c : ByteArray) (_ : c.size ≤ maxLen) (d : ByteArray) (_ : d.size ≤ maxLen) (ex : Int) (_ : (Lit.int .i64 ex).wf = true) (he : Bool) (ag : Int) (_ : (Lit.int .i64 ag).wf = true) (ha se hi : Bool) (si : Int) (_ : (Lit.int .u8 si).wf = true) (now : Int) (_ : (Lit.int .i64 now).wf = true) (w : World) (_hsh : w.ShapedOpen Try.prog) :
    Calls Try.prog 3 #[.agg #[.string a, .string b, .string c, .string d, .int .i64 ex, .bool he, .int .i64 ag, .bool ha, .bool se, .bool hi, .int .u8 si], .int .i64 now] w fun e w' => e = .returned (.bool true) ∧ Below w.heap.size w w' := by
  have hl := Lies.new w a b c d ex he ag ha se hi si
  obtain ⟨⟨h0, h1, h2, h3, h4, h5, h6, h7, h8, h9, h10⟩, hbel, hlt⟩ := hl
  go_enter Try.func3, Try.ntmps3
  go_wp2_with fail
  generalize w.alloc _ = w1 at *
  go_region_held3 (fun w' => (w'.cell? ⟨w.heap.size, 0, none⟩ = some (.string a) ∧ w'.cell? ⟨w.heap.size, 1, none⟩ = some (.string b) ∧ w'.cell? ⟨w.heap.size, 2, none⟩ = some (.string c) ∧ w'.cell? ⟨w.heap.size, 3, none⟩ = some (.string d) ∧ w'.cell? ⟨w.heap.size, 4, none⟩ = some (.int .i64 ex) ∧ w'.cell? ⟨w.heap.size, 5, none⟩ = some (.bool he) ∧ w'.cell? ⟨w.heap.size, 6, none⟩ = some (.int .i64 ag) ∧ w'.cell? ⟨w.heap.size, 7, none⟩ = some (.bool ha) ∧ w'.cell? ⟨w.heap.size, 8, none⟩ = some (.bool se) ∧ w'.cell? ⟨w.heap.size, 9, none⟩ = some (.bool hi) ∧ w'.cell? ⟨w.heap.size, 10, none⟩ = some (.int .u8 si)) ∧ Below w.heap.size w w' ∧ w.heap.size < w'.heap.size)
    (first
      | exact Lies.go ‹_› ‹_›
      | exact ⟨⟨h0, h1, h2, h3, h4, h5, h6, h7, h8, h9, h10⟩, hbel.drew, hlt⟩)
    (first
      | (go_at_call 4; refine (untilA_any _ _ _ _ _ _ _ _ _ _ _ _ _).mono ?_; rintro e w1 ⟨rfl, hb1⟩)
      | (go_at_call 5; refine (untilR_any _ _ _ _ _ _ _ _ _ _ _ _ _).mono ?_; rintro e w2 ⟨rfl, hb2⟩))
  rename_i hH
  obtain ⟨-, hB, -⟩ := hH
  go_wp2
  go_ret
  exact ⟨rfl, hB⟩
end Go.Proofs.Ythfndlphhgchnaa
