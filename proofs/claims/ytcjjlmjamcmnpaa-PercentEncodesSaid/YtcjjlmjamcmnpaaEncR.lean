/- Walk: the reference's Encode. -/
import Derived.Test.YtcjjlmjamcmnpaaEnc
import Derived.Test.YtcjjlmjamcmnpaaApp
namespace Go.Proofs.Ytcjjlmjamcmnpaa
open Go.RowKit Go.Lib Go.Proofs.Foot

set_option maxHeartbeats 1000000 in
set_option maxRecDepth 100000 in
theorem encodeR_any (s : ByteArray) (n : Nat) (hn : n < 256) (w : World) (hs : s.size ≤ 1048576) :
    Calls Try.prog 9 #[.string s, .int .u8 n] w fun e w' => e = .returned (.string ⟨(encode n s.data.toList).toArray⟩) ∧ Below w.heap.size w w' := by
  go_enter Try.func9, Try.ntmps9
  go_wp2
  go_loopw [7, 5] (fun i v wr => ∃ k : Nat, k ≤ s.size ∧ i = .int .i64 k ∧ wr.ownsRow w.heap.size 5 1 v (encode n (s.data.toList.take k)).length (byteCells (encode n (s.data.toList.take k))) ∧ Below w.heap.size w wr) (fun i _ _ => s.size - (intOf i).toNat)
  case atStart => exact ⟨0, Nat.zero_le _, rfl, World.ownsRow_nil _ _ _ _, Below.refl _ _⟩
  case round =>
    obtain ⟨k, hk, rfl, hown, hbel⟩ := hrel
    obtain ⟨ao, cap, rfl⟩ := slice_of_own hown
    have hlenE : (encode n (s.data.toList.take k)).length ≤ 3145728 := by
      have h1 := encode_length n (s.data.toList.take k)
      have h2 : (s.data.toList.take k).length ≤ 1048576 := by simp; omega
      omega
    by_cases hlt : k < s.size
    · have hl : k < s.data.toList.length := by simpa using hlt
      have hx : s.data.toList[k] = s[k] := rfl
      have hes := encode_snoc n hl
      rw [hx] at hes
      have Hes := hid hes
      have Hown := hid hown
      have Hbel := hid hbel
      have h256 : (s[k].toNat : Int) < 256 := by have := s[k].toNat_lt; omega
      clear hes hx hown hbel
      cases hh : hasB n s[k] with
      | true =>
        have hcon := hasR_any n hn s[k]
        rw [hh] at hcon
        have Hcon := hid hcon
        have Hh := hid hh
        clear hcon hh
        have h256n : s[k].toNat < 256 := s[k].toNat_lt
        have b1 : ((s[k].toNat : Int) / 16).toNat < (⟨#[48, 49, 50, 51, 52, 53, 54, 55, 56, 57, 65, 66, 67, 68, 69, 70]⟩ : ByteArray).size := by show ((s[k].toNat : Int) / 16).toNat < 16; omega
        have b2 : ((s[k].toNat : Int) % 16).toNat < (⟨#[48, 49, 50, 51, 52, 53, 54, 55, 56, 57, 65, 66, 67, 68, 69, 70]⟩ : ByteArray).size := by show ((s[k].toNat : Int) % 16).toNat < 16; omega
        obtain ⟨v', w5, hr0, happ⟩ := app_run w.heap.size (encode n (s.data.toList.take k)) [37, (⟨#[48, 49, 50, 51, 52, 53, 54, 55, 56, 57, 65, 66, 67, 68, 69, 70]⟩ : ByteArray)[((s[k].toNat : Int) / 16).toNat], (⟨#[48, 49, 50, 51, 52, 53, 54, 55, 56, 57, 65, 66, 67, 68, 69, 70]⟩ : ByteArray)[((s[k].toNat : Int) % 16).toNat]] (.slice ao (encode n (s.data.toList.take k)).length cap) wr 1 3 3 rfl
          #[.int .u8 37, .int .u8 (⟨#[48, 49, 50, 51, 52, 53, 54, 55, 56, 57, 65, 66, 67, 68, 69, 70]⟩ : ByteArray)[((s[k].toNat : Int) / 16).toNat].toNat, .int .u8 (⟨#[48, 49, 50, 51, 52, 53, 54, 55, 56, 57, 65, 66, 67, 68, 69, 70]⟩ : ByteArray)[((s[k].toNat : Int) % 16).toNat].toNat] rfl Hown.out (by show _ + 3 ≤ _; omega) Hbel.out.size
        have hr : (Builtin.append_ #[32, 32] 32 #[.slice ao (encode n (s.data.toList.take k)).length cap, .slice (some ⟨wr.heap.size, 0, none⟩) 3 3]).run Try.prog (wr.alloc (.cells #[.int .u8 37, .int .u8 (⟨#[48, 49, 50, 51, 52, 53, 54, 55, 56, 57, 65, 66, 67, 68, 69, 70]⟩ : ByteArray)[((s[k].toNat : Int) / 16).toNat].toNat, .int .u8 (⟨#[48, 49, 50, 51, 52, 53, 54, 55, 56, 57, 65, 66, 67, 68, 69, 70]⟩ : ByteArray)[((s[k].toNat : Int) % 16).toNat].toNat] 5)).drew = .ok v' w5 := hr0
        rw [digits_at, digits_at, show ((s[k].toNat : Int) / 16).toNat = s[k].toNat / 16 from by omega, show ((s[k].toNat : Int) % 16).toNat = s[k].toNat % 16 from by omega, ← encB_yes Hh.out] at happ
        have Happ := hid happ
        have Hr := hid hr
        clear happ hr0 hr
        have e1 : IntKind.u8.wrap ((s[k].toNat : Int) / 16) = (s[k].toNat : Int) / 16 := IntWalk.u8_in _ (by omega)
        have e2 : (s[k].toNat : Int).tmod 16 = (s[k].toNat : Int) % 16 := Int.tmod_eq_emod_of_nonneg (by omega)
        have h1 : 0 ≤ (s[k].toNat : Int) / 16 ∧ (s[k].toNat : Int) / 16 < 16 := by omega
        have h2 : 0 ≤ (s[k].toNat : Int) % 16 ∧ (s[k].toNat : Int) % 16 < 16 := by omega
        go_wp2_with (go_at_call 6; refine (Hcon.out _).mono ?_; rintro e w4 ⟨rfl, rfl⟩)
        go_region_law (refine step_app rfl _ _ 32 rfl _ _ _ _ rfl rfl Hr.out ?_)
        all_goals go_wp2
        all_goals go_roundw
        all_goals first
          | exact ⟨k + 1, by omega, by go_num, by rw [Hes.out]; exact Happ.out.1, Hbel.out.trans (Happ.out.2.1.below (fun j hj => (Hown.out.lt j hj).1) Hbel.out.size)⟩
          | (simp [intOf]; omega)
      | false =>
        have hcon := hasR_any n hn s[k]
        rw [hh] at hcon
        have Hcon := hid hcon
        have Hh := hid hh
        clear hcon hh
        go_wp2_with (first
          | (go_at_call 6; refine (Hcon.out _).mono ?_; rintro e w4 ⟨rfl, rfl⟩)
          | (at_builtin; refine app1 rfl _ _ rfl rfl w.heap.size (encode n (s.data.toList.take k)) s[k] (.slice ao (encode n (s.data.toList.take k)).length cap) rfl Hown.out rfl (by omega) Hbel.out.size ?_; intro v' w5 happ))
        go_roundw
        case rel => exact ⟨k + 1, by omega, by go_num, by rw [Hes.out, encB_no Hh.out]; exact happ.1, Hbel.out.trans (happ.2.1.below (fun j hj => (Hown.out.lt j hj).1) Hbel.out.size)⟩
        case measure => simp [intOf]; omega
    · have e : s.data.toList.take k = s.data.toList := List.take_of_length_le (by simp; omega)
      have ho2 : wr.ownsRow w.heap.size 5 1 (.slice ao (encode n (s.data.toList.take k)).length cap) (encode n s.data.toList).length (byteCells (encode n s.data.toList)) := by
        have h := hown
        rw [e] at h ⊢
        exact h
      have Hbel := hid hbel
      clear e hown
      go_wp2_with (refine own_string rfl _ rfl w.heap.size _ _ rfl ho2 ?_)
      go_ret
      exact ⟨rfl, Hbel.out⟩
end Go.Proofs.Ytcjjlmjamcmnpaa
