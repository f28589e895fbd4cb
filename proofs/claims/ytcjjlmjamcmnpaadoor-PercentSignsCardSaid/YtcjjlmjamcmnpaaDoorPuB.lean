/- Walk: strconv.ParseUint(s, 16, 8) of two bytes. -/
import Derived.Test.YtcjjlmjamcmnpaaDoorPu
namespace Go.Proofs.YtcjjlmjamcmnpaaDoor
open Go.RowKit Go.Lib Go.Proofs.Foot

set_option maxRecDepth 100000 in
theorem parseHex_yes (t : ByteArray) (a b : UInt8) (ht : t.data.toList = [a, b]) (h : pairB a b = true) (w : World) :
    Calls Tryd.prog 18 #[.string t, .int .i64 16, .int .i64 8] w fun e w' => e = .returned (.tuple #[.int .u64 (pairV a b).toNat, .nilIface]) ∧ Below w.heap.size w w' := by
  have hsz : t.size = 2 := by rw [Lib.size_eq, ht]; rfl
  have hI := parseIn_any t (by omega) (by omega) w
  rw [ht, puHex_two, if_pos h] at hI
  have HI : Hid (Calls Tryd.prog 25 #[.string t, .int .i64 16, .int .i64 8] w fun e w' => e = .returned (.tuple #[.int .u64 (pairV a b).toNat, .nilIface]) ∧ w' = Lib.bytesWorld w 5 t) := hid hI
  clear hI ht h hsz
  go_enter Tryd.func18, Tryd.ntmps18
  go_wp2_with (go_at_call 25; refine HI.out.mono ?_; rintro e w1 ⟨rfl, rfl⟩)
  go_ret2
  exact ⟨rfl, Lib.bytesWorld_below w _ t⟩

set_option maxRecDepth 100000 in
theorem parseHex_no (t : ByteArray) (a b : UInt8) (ht : t.data.toList = [a, b]) (h : pairB a b = false) (w : World) (ev : Value) (hv : w.cell? ⟨1, 0, none⟩ = some ev) (hev : ev = .nilIface ∨ ∃ te pe, ev = .iface te pe) :
    Calls Tryd.prog 18 #[.string t, .int .i64 16, .int .i64 8] w fun e w' => ∃ N, e = .returned (.tuple #[.int .u64 0, .iface 63 (.pointer (some ⟨N, 0, none⟩))]) ∧ Below w.heap.size w w' := by
  have hsz : t.size = 2 := by rw [Lib.size_eq, ht]; rfl
  have hI := parseIn_any t (by omega) (by omega) w
  rw [ht, puHex_two, if_neg (by rw [h]; decide)] at hI
  have HI : Hid (Calls Tryd.prog 25 #[.string t, .int .i64 16, .int .i64 8] w fun e w' => e = .returned (.tuple #[.int .u64 0, .iface 61 (.int .i64 2)]) ∧ w' = Lib.bytesWorld w 5 t) := hid hI
  have hb := Lib.bytesWorld_below w 5 t
  have hT := Tryd.strconv_toError_syntax ⟨#[80, 97, 114, 115, 101, 85, 105, 110, 116]⟩ t 16 8 ev (Lib.bytesWorld w 5 t) (by omega) ((hb.cell (Lib.lt_of_cell hv)).trans hv) hev
  have HT := hid hT
  have Hb := hid hb
  clear hI ht h hsz hT hb hv hev
  go_enter Tryd.func18, Tryd.ntmps18
  go_wp2_with (first
    | (go_at_call 25; refine HI.out.mono ?_; rintro e w1 ⟨rfl, rfl⟩)
    | (go_at_call 26; refine HT.out.mono ?_; rintro e w2 ⟨N, rfl, -, -, hb2⟩))
  go_ret2
  exact ⟨N, rfl, below_chain Hb.out hb2⟩
end Go.Proofs.YtcjjlmjamcmnpaaDoor
