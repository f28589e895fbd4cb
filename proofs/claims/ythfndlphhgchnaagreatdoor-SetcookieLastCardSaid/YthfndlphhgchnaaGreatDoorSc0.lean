/- A cookie's row of cells; maps of any elements that the call made itself. -/
import Derived.Test.YthfndlphhgchnaaGreatDoorProg
import Derived.Test.YthfndlphhgchnaaGreatDoorBase
import Derived.Test.YthfndlphhgchnaaGreatDoorBlk
import Derived.Test.YthfndlphhgchnaaGreatDoorSpec10
import Derived.Maps.Own
import Derived.Maps.Views
namespace Go.Proofs.YthfndlphhgchnaaGreatDoor
open Go.RowKit Go.Lib Go.Maps Go.Proofs.Foot

def tx (l : List UInt8) : ByteArray := ⟨l.toArray⟩
theorem tx_list (l : List UInt8) : (tx l).data.toList = l := by simp [tx]
theorem tx_of (s : ByteArray) : tx s.data.toList = s := by cases s; simp [tx]
theorem tx_size (l : List UInt8) : (tx l).size = l.length := by rw [Lib.size_eq, tx_list]
/-- The cells of a cookie as it is told so far. -/
def rowC (t : CkT) : Array Value :=
  #[.string (tx t.name), .string (tx t.value), .string (tx t.domain), .string (tx t.path), .int .i64 t.exp, .bool t.hasExp, .int .i64 t.age, .bool t.hasAge, .bool t.secure, .bool t.hidden, .int .u8 (t.site : Nat)]
theorem rowC_size (t : CkT) : (rowC t).size = 11 := rfl
theorem rowC_one (t : CkT) : (rowC t).all (·.oneCell') = true := by simp [rowC, Value.oneCell']
theorem infoCk (t : CkT) : (Tryz.prog.info? 57).map (·.size) = some (rowC t).size := by
  rw [rowC_size]; kernel_rfl
theorem infoTd (t : CkT) : (Tryz.prog.info? 24).map (·.size) = some (rowC t).size := by
  rw [rowC_size]; kernel_rfl
/-- What a method of the cookie does. -/
def SaysR (g : Nat) (t : CkT) (w : World) (e : Ending) (w' : World) : Prop := e = .returned (.tuple #[]) ∧ Blk w' g 57 (rowC t) ∧ w.grownBy w' (some g)
theorem grown_below {w w1 : World} (hb : Below w.heap.size w w1) (r : Option Nat) : w.grownBy w1 r := ⟨hb.os, hb.tape, hb.output, hb.size, fun k hk _ => hb.block k hk⟩
theorem grown_refl (w : World) (r : Option Nat) : w.grownBy w r := grown_below (Below.refl _ _) r
theorem grown_set {w w1 : World} {g : Nat} (h : w.grownBy w1 (some g)) (i : Nat) (v : Value) : w.grownBy (w1.setCell ⟨g, i, none⟩ v) (some g) := by
  have hb := (Below.refl w1.heap.size w1)
  refine ⟨h.os, h.tape, h.output, ?_, fun k hk hne => ?_⟩
  · have : (w1.setCell ⟨g, i, none⟩ v).heap.size = w1.heap.size := by simp [World.setCell]
    rw [this]; exact h.size
  · rw [Below.heap_setCell w1 ⟨g, i, none⟩ v k (fun e => hne (by rw [e]))]
    exact h.block k hk hne

theorem keyLawS : Keyed Tryz.prog 9 := string_keyed Tryz.underlying9
/-- Any value reads as itself. -/
def anyR (v : Value) : Option (DataW Value × List MemPlace) := some (.held v, [])
def mapV : Option Value → DataW Value
  | some v => .held v
  | none => .lit (.bool false)
/-- Block b is a map from texts: F says what it holds. -/
def MapF (w : World) (b n : Nat) (F : List UInt8 → Option Value) : Prop :=
  ∃ D : DataW Value, w.ownsMap Tryz.prog 9 anyR b n D ∧ IsMap D ∧ ∀ s, D.atKey (.string s) (.lit (.bool false)) = mapV (F s)
theorem MapF.made (w : World) : MapF (w.alloc (.map #[] 0)) w.heap.size 0 (fun _ => none) :=
  ⟨.map [], World.ownsMap_made _ _ _ _, ⟨_, rfl⟩, fun _ => rfl⟩
theorem MapF.lt {w : World} {b n : Nat} {F : List UInt8 → Option Value} (h : MapF w b n F) : b < w.heap.size := by
  obtain ⟨D, h, _⟩ := h; exact h.lt
theorem MapF.kept {w w' : World} {b n : Nat} {F : List UInt8 → Option Value} (h : MapF w b n F) (hb : w'.heap[b]? = w.heap[b]?) : MapF w' b n F := by
  obtain ⟨D, ⟨es, clock, h1, h2⟩, h3⟩ := h
  exact ⟨D, ⟨es, clock, hb.trans h1, h2⟩, h3⟩
theorem MapF.below {w w' : World} {b n : Nat} {F : List UInt8 → Option Value} (h : MapF w b n F) (hb : Below w.heap.size w w') : MapF w' b n F := h.kept (hb.block b h.lt)
theorem held_mapV {v : Value} {o : Option Value} (h : DataW.held v = mapV o) : o = some v := by
  cases o with
  | none => cases h
  | some u => injection h with h; rw [h]
theorem mapV_none {o : Option Value} (h : mapV o = .lit (.bool false)) : o = none := by
  cases o with
  | none => rfl
  | some u => cases h
set_option maxRecDepth 100000 in
theorem MapF.look2 {w : World} {b n : Nat} {F : List UInt8 → Option Value} (h : MapF w b n F) {t e : TypeId} (ht : Tryz.prog.underlying t = some (.map 9 e)) {z : Value} (hz : (zeroValue e).run Tryz.prog w = .ok z w) (c : Bool) (s : ByteArray) (hs : s.size ≤ maxLen) :
    (Instr.lookup t (.map (some b)) (.string s) c).run Tryz.prog w = .ok (if c = true then .tuple #[(F s.data.toList).getD z, .bool (F s.data.toList).isSome] else (F s.data.toList).getD z) w := by
  obtain ⟨D, ⟨es, clock, hb, hF, _, rfl⟩, h2, h3⟩ := h
  have hk := Go.WideMaps.keyOf_string_mk (P := Tryz.prog) (k := 9) Tryz.underlying9 hs
  rcases Maps.fit_look c keyLawS ht hz hb hF hk with ⟨hrun, _, hat⟩ | ⟨e0, y, _, _, hrun, hRv, hat, _⟩
  · have h4 := h3 s.data.toList
    rw [hat] at h4
    have h5 := mapV_none h4.symm
    rw [h5, hrun]
    cases c <;> rfl
  · have h4 := h3 s.data.toList
    rw [hat] at h4
    have hy : y.1 = .held e0.val := by
      unfold anyR at hRv
      injection hRv with hRv
      rw [← hRv]
    rw [hy] at h4
    have h5 := held_mapV h4
    rw [h5, hrun]
    cases c <;> rfl
theorem MapF.update {w : World} {b n : Nat} {F : List UInt8 → Option Value} (h : MapF w b n F) {t e : TypeId} (ht : Tryz.prog.underlying t = some (.map 9 e)) (hn : n < maxLen) (s : ByteArray) (hs : s.size ≤ maxLen) (v : Value) :
    ∃ w', (Instr.mapUpdate t (.map (some b)) (.string s) v).run Tryz.prog w = .ok () w' ∧ MapF w' b (n + 1) (fun k => if k = s.data.toList then some v else F k) ∧ w.grownBy w' (some b) := by
  obtain ⟨D, h1, h2, h3⟩ := h
  obtain ⟨w', hrun, r1, r2⟩ := h1.update keyLawS ht hn (Go.WideMaps.keyOf_string_mk Tryz.underlying9 hs) (show anyR v = some (.held v, []) from rfl)
  refine ⟨w', hrun, ⟨_, r1, ?_, fun t => ?_⟩, r2⟩
  · obtain ⟨es, rfl⟩ := h2; exact ⟨_, rfl⟩
  · show _ = mapV (if t = s.data.toList then some v else F t)
    by_cases ht : t = s.data.toList
    · rw [if_pos ht, ht, atKey_put_same h2 (by trivial)]
      rfl
    · rw [if_neg ht, atKey_put_other (by intro e; injection e with e; exact ht e), h3]
theorem below_grown {w w1 w2 : World} {b : Nat} (h : Below b w w1) (hg : w1.grownBy w2 (some b)) (hb : b ≤ w1.heap.size) : Below b w w2 := by
  refine h.trans ?_
  exact ⟨hg.os, hg.tape, hg.output, hg.size, fun k hk => hg.block k (by omega) (fun e => by injection e with e; omega)⟩
end Go.Proofs.YthfndlphhgchnaaGreatDoor
